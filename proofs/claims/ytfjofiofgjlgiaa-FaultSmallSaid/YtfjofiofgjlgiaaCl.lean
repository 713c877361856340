/-
  The closures of 'runs': what Catch, Try and outside make of a run of steps. No condition.
-/
import Derived.Test.YtfjofiofgjlgiaaK25
namespace Go.Proofs.Ytfjofiofgjlgiaa
open Go.RowKit
attribute [local go_sem] onto_cell onto_frozen
/-- What a round of 'runs' has laid ahead of its run. -/
structure Cl (w : World) (ib pb sb mb db : Nat) (i : Int) (a : Option Addr) (n cap : Nat) (xs : List Step3) (f l u : Int) : Prop where
  hi : Blk w ib [.int .i64 i] 3
  hp : Blk w pb [.pointer (some ⟨mb, 0, none⟩)] 47
  hs : Blk w sb [.slice a n cap] 59
  hd : Blk w db [.int .i64 0] 3
  hx : Blk w (db + 1) [.int .u8 0, .int .i64 0] 23
  hk : Blk w (db + 2) [.bool false] 4
  hf : Blk w (db + 3) [.int .i64 0] 25
  hv : Blk w (db + 4) [.int .i64 0] 3
  hm : Mtr w mb f l u
  st : Stp w a n xs
  ord : mb < pb ∧ pb < ib ∧ ib < sb ∧ sb < db
  sa : 0 < n → ∀ b o, a = some ⟨b, o, none⟩ → b < mb
  bd : n ≤ 12 ∧ 0 ≤ l ∧ l ≤ f ∧ f ≤ 1048576 ∧ 0 ≤ u ∧ u ≤ 1000000000000
theorem Cl.non {w w' : World} {ib pb sb mb db : Nat} {i : Int} {a : Option Addr} {n cap : Nat} {xs : List Step3} {f l u : Int} (h : Cl w ib pb sb mb db i a n cap xs f l u) (k : Keeps Non w w') : Cl w' ib pb sb mb db i a n cap xs f l u :=
  ⟨h.hi.keeps k id, h.hp.keeps k id, h.hs.keeps k id, h.hd.keeps k id, h.hx.keeps k id, h.hk.keeps k id, h.hf.keeps k id, h.hv.keeps k id, Blk.keeps h.hm k id, h.st.non k, h.ord, h.sa, h.bd⟩
def capD (pb sb db : Nat) : Array Value := #[.pointer (some ⟨pb, 0, none⟩), .pointer (some ⟨sb, 0, none⟩), .pointer (some ⟨db, 0, none⟩)]
def SD (mb db : Nat) : Nat → Prop := fun i => i = mb ∨ i = db
set_option maxHeartbeats 2000000 in
theorem f56_any {w : World} {ib pb sb mb db : Nat} {i : Int} {a : Option Addr} {n cap : Nat} {xs : List Step3} {f l u : Int} (h : Cl w ib pb sb mb db i a n cap xs f l u) :
    Calls Try.prog 56 (capD pb sb db) w (DoPost mb db f l u xs w) := by
  obtain ⟨o1, o2, o3, o4⟩ := h.ord
  obtain ⟨b1, b2, b3, b4, b5, b6⟩ := h.bd
  have HC := hide (do_any mb db a n cap xs f l u w h.hm h.hd h.st b1 (by omega) (fun hn b o e => by have := h.sa hn b o e; omega) b2 b3 b4 b5 b6)
  have p0 : w.cell? ⟨pb, 0, none⟩ = some (.pointer (some ⟨mb, 0, none⟩)) := h.hp.cell 0
  have s0 : w.cell? ⟨sb, 0, none⟩ = some (.slice a n cap) := h.hs.cell 0
  clear h
  unfold capD
  go_enter Try.func56, Try.ntmps56
  go_wp2_with fail
  refine HC.out.mono ?_
  rintro e w2 ⟨hE, hM, hD, hK⟩
  have H := hide (And.intro hM (And.intro hD hK))
  clear hM hD hK
  rcases hE with ⟨h0, rfl⟩ | ⟨h0, rfl⟩ | ⟨h0, v, rfl⟩ | ⟨h0, rfl⟩
  · have H0 := hide h0
    clear h0
    go_wp2
    go_end0
    exact ⟨.inl ⟨H0.out, rfl⟩, H.out⟩
  · have H0 := hide h0
    clear h0
    go_wp2
    exact ⟨rfl, .inr (.inl ⟨H0.out, rfl⟩), H.out⟩
  · have H0 := hide h0
    clear h0
    go_wp2
    exact ⟨rfl, .inr (.inr (.inl ⟨H0.out, v, rfl⟩)), H.out⟩
  · have H0 := hide h0
    clear h0
    go_wp2
    exact ⟨rfl, .inr (.inr (.inr ⟨H0.out, rfl⟩)), H.out⟩
/-- The same, where 5 is returned. -/
def End5 (k m : Int) (e : Ending) : Prop :=
  (k = 0 ∧ e = .returned (.int .i64 5)) ∨ (k ≠ 0 ∧ EndS k m e)
def DoPost5 (mb db : Nat) (f l u : Int) (xs : List Step3) (w : World) (e : Ending) (w' : World) : Prop :=
  End5 (runS f xs l u 0).2.2.2.1 (runS f xs l u 0).2.2.2.2 e ∧ Mtr w' mb f (runS f xs l u 0).1 (runS f xs l u 0).2.1 ∧ Blk w' db [.int .i64 (runS f xs l u 0).2.2.1] 3 ∧ Keeps (fun i => i = mb ∨ i = db) w w'
set_option maxHeartbeats 2000000 in
theorem f59_any {w : World} {ib pb sb mb db : Nat} {i : Int} {a : Option Addr} {n cap : Nat} {xs : List Step3} {f l u : Int} (h : Cl w ib pb sb mb db i a n cap xs f l u) :
    Calls Try.prog 59 (capD pb sb db) w (DoPost5 mb db f l u xs w) := by
  obtain ⟨o1, o2, o3, o4⟩ := h.ord
  obtain ⟨b1, b2, b3, b4, b5, b6⟩ := h.bd
  have HC := hide (do_any mb db a n cap xs f l u w h.hm h.hd h.st b1 (by omega) (fun hn b o e => by have := h.sa hn b o e; omega) b2 b3 b4 b5 b6)
  have p0 : w.cell? ⟨pb, 0, none⟩ = some (.pointer (some ⟨mb, 0, none⟩)) := h.hp.cell 0
  have s0 : w.cell? ⟨sb, 0, none⟩ = some (.slice a n cap) := h.hs.cell 0
  clear h
  unfold capD
  go_enter Try.func59, Try.ntmps59
  go_wp2_with fail
  refine HC.out.mono ?_
  rintro e w2 ⟨hE, hM, hD, hK⟩
  have H := hide (And.intro hM (And.intro hD hK))
  clear hM hD hK
  rcases hE with ⟨h0, rfl⟩ | ⟨h0, rfl⟩ | ⟨h0, v, rfl⟩ | ⟨h0, rfl⟩
  · have H0 := hide h0
    clear h0
    go_wp2
    go_ret
    exact ⟨.inl ⟨H0.out, rfl⟩, H.out⟩
  · have H0 := hide h0
    clear h0
    go_wp2
    exact ⟨rfl, .inr ⟨by have := H0.out; omega, .inr (.inl ⟨H0.out, rfl⟩)⟩, H.out⟩
  · have H0 := hide h0
    clear h0
    go_wp2
    exact ⟨rfl, .inr ⟨by have := H0.out; omega, .inr (.inr (.inl ⟨H0.out, v, rfl⟩))⟩, H.out⟩
  · have H0 := hide h0
    clear h0
    go_wp2
    exact ⟨rfl, .inr ⟨by have := H0.out; omega, .inr (.inr (.inr ⟨H0.out, rfl⟩))⟩, H.out⟩
theorem noExit_nil : NoExit [] := rfl
/-- What is left behind a run: the meter, and how many steps were done. -/
def RD (mb db : Nat) (f L U D : Int) (w : World) : Prop := Mtr w mb f L U ∧ Blk w db [.int .i64 D] 3
theorem RD.below {mb db : Nat} {f L U D : Int} {w w' : World} {B : Nat} (h : RD mb db f L U D w) (hb : Below B w w') (h1 : mb < B) (h2 : db < B) : RD mb db f L U D w' := ⟨Blk.below h.1 hb h1, h.2.below hb h2⟩
section
variable {w : World} {ib pb sb mb db : Nat} {i : Int} {a : Option Addr} {n cap : Nat} {xs : List Step3} {f l u L U D M : Int}
theorem f56_0 (hr : runS f xs l u 0 = (L, U, D, 0, M)) (h : Cl w ib pb sb mb db i a n cap xs f l u) :
    Calls Try.prog 56 (capD pb sb db) w fun e w' => (∃ v, e = .returned v) ∧ Keeps (SD mb db) w w' ∧ RD mb db f L U D w' := by
  refine (f56_any h).mono ?_
  rintro e w' ⟨hE, hM, hD, hK⟩
  rw [hr] at hE hM hD
  rcases hE with ⟨_, rfl⟩ | ⟨h0, _⟩ | ⟨h0, _⟩ | ⟨h0, _⟩
  · exact ⟨⟨_, rfl⟩, hK, hM, hD⟩
  · simp at h0
  · simp at h0
  · simp at h0
theorem f56_f {K : Int} (hr : runS f xs l u 0 = (L, U, D, K, M)) (hk : K = 1 ∨ K = 2) (h : Cl w ib pb sb mb db i a n cap xs f l u) :
    Calls Try.prog 56 (capD pb sb db) w fun e w' => (∃ older, e = .panicked ({ v := .iface 23 (flt K M), recovered := false } :: older) ∧ NoExit older) ∧ Keeps (SD mb db) w w' ∧ RD mb db f L U D w' := by
  refine (f56_any h).mono ?_
  rintro e w' ⟨hE, hM, hD, hK⟩
  rw [hr] at hE hM hD
  rcases hE with ⟨h0, _⟩ | ⟨_, rfl⟩ | ⟨h0, _⟩ | ⟨h0, _⟩
  · simp at h0; omega
  · exact ⟨⟨[], rfl, noExit_nil⟩, hK, hM, hD⟩
  · simp at h0; omega
  · simp at h0; omega
theorem f56_8 (hr : runS f xs l u 0 = (L, U, D, 8, M)) (h : Cl w ib pb sb mb db i a n cap xs f l u) :
    Calls Try.prog 56 (capD pb sb db) w fun e w' => (∃ v older, e = .panicked ({ v := .iface 8 v, recovered := false } :: older) ∧ NoExit older) ∧ Keeps (SD mb db) w w' ∧ RD mb db f L U D w' := by
  refine (f56_any h).mono ?_
  rintro e w' ⟨hE, hM, hD, hK⟩
  rw [hr] at hE hM hD
  rcases hE with ⟨h0, _⟩ | ⟨h0, _⟩ | ⟨_, v, rfl⟩ | ⟨h0, _⟩
  · simp at h0
  · simp at h0
  · exact ⟨⟨v, [], rfl, noExit_nil⟩, hK, hM, hD⟩
  · simp at h0
theorem f56_9 (hr : runS f xs l u 0 = (L, U, D, 9, M)) (h : Cl w ib pb sb mb db i a n cap xs f l u) :
    Calls Try.prog 56 (capD pb sb db) w fun e w' => (∃ older, e = .panicked ({ v := .iface 25 (.int .i64 350), recovered := false } :: older) ∧ NoExit older) ∧ Keeps (SD mb db) w w' ∧ RD mb db f L U D w' := by
  refine (f56_any h).mono ?_
  rintro e w' ⟨hE, hM, hD, hK⟩
  rw [hr] at hE hM hD
  rcases hE with ⟨h0, _⟩ | ⟨h0, _⟩ | ⟨h0, _⟩ | ⟨_, rfl⟩
  · simp at h0
  · simp at h0
  · simp at h0
  · exact ⟨⟨[], rfl, noExit_nil⟩, hK, hM, hD⟩
end
end Go.Proofs.Ytfjofiofgjlgiaa
