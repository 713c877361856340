/-
  The walk over FaultInner: the outer closure, and the law. No condition.
-/
import Derived.Test.YtfjofiofgjlgiaaQ
namespace Go.Proofs.Ytfjofiofgjlgiaa
open Go.RowKit

theorem S14_lt {w : World} {n a b odd p q} (h : Inn w n a b odd p q) : ∀ k, S14 n k → k < w.heap.size := by
  intro k hk
  have := h.steps.lt
  unfold S14 at hk
  omega
theorem c14_odd (n : Nat) (a b p q : Int) (w : World) (h : Inn w n a b true p q) :
    Calls Try.prog 13 #[.func (.func 14) #[] (cap14 n)] w fun e w' => (∃ v older, e = .panicked ({ v := .iface 8 v, recovered := false } :: older) ∧ NoExit older) ∧ Keeps (S14 n) w w' ∧ R14 w' n 0 0 false 1 :=
  (catch_on 14 _ w (S14 n) (fun W => R14 W n 0 0 false 1) (fun _ _ => by kernel_rfl) (fun W0 hW => f14_odd n a b p q W0 (h.keeps hW))).mono
    fun e w' ⟨he, hk, W1, hR, hb⟩ => ⟨he, hk, hR.below hb h.steps.lt⟩
theorem c14_fault (n : Nat) (a b p q k m s : Int) (i : Bool) (w : World) (h : Inn w n a b false p q) (hs0 : 0 ≤ s) (hs1 : s ≤ 100) (hq : thereB q = true) (hq0 : 0 < q) (hc : ∀ W, Inn W n a b false p q → C15 W n k m i s) :
    Calls Try.prog 13 #[.func (.func 14) #[] (cap14 n)] w fun e w' => e = .returned (.tuple #[.agg #[.int .u8 q, .int .i64 b], .bool true, .int .i64 0]) ∧ Keeps (S14 n) w w' ∧ R14 w' n k m i (s + 100) :=
  (catch_fault 14 _ w (S14 n) q b (fun W => R14 W n k m i (s + 100)) hq (fun _ _ => by kernel_rfl) (S14_lt h) (fun W0 hW => f14_fault n a b p q k m s i W0 (h.keeps hW) hs0 hs1 hq hq0 (hc W0 (h.keeps hW)))).mono
    fun e w' ⟨he, hk, W1, hR, hb⟩ => ⟨he, hk, hR.below hb h.steps.lt⟩
theorem c14_ret (n : Nat) (a b p k m s : Int) (i : Bool) (w : World) (h : Inn w n a b false p 0) (hs0 : 0 ≤ s) (hs1 : s ≤ 100) (hc : ∀ W, Inn W n a b false p 0 → C15 W n k m i s) :
    Calls Try.prog 13 #[.func (.func 14) #[] (cap14 n)] w fun e w' => e = .returned (.tuple #[.agg #[.int .u8 0, .int .i64 0], .bool false, .int .i64 0]) ∧ Keeps (S14 n) w w' ∧ R14 w' n k m i (s + 100 + 1000) :=
  (catch_ret 14 _ w (S14 n) (fun W => R14 W n k m i (s + 100 + 1000)) (fun _ _ => by kernel_rfl) (S14_lt h) (fun W0 hW => f14_ret n a b p k m s i W0 (h.keeps hW) hs0 hs1 (hc W0 (h.keeps hW)))).mono
    fun e w' ⟨he, hk, W1, hR, hb⟩ => ⟨he, hk, hR.below hb h.steps.lt⟩

/-! ### The outer closure -/
def cap12 (n : Nat) : Array Value := #[.pointer (some ⟨n + 7, 0, none⟩), .pointer (some ⟨n + 2, 0, none⟩), .pointer (some ⟨n, 0, none⟩), .pointer (some ⟨n + 3, 0, none⟩),
  .pointer (some ⟨n + 5, 0, none⟩), .pointer (some ⟨n + 6, 0, none⟩), .pointer (some ⟨n + 4, 0, none⟩), .pointer (some ⟨n + 1, 0, none⟩), .pointer (some ⟨n + 8, 0, none⟩), .pointer (some ⟨n + 9, 0, none⟩)]
def S12 (n : Nat) : Nat → Prop := fun i => i = n + 8 ∨ i = n + 9 ∨ S14 n i
structure R12 (w : World) (n : Nat) (k m : Int) (i : Bool) (s x y : Int) (o : Bool) : Prop where
  r : R14 w n k m i s
  outer : Blk w (n + 8) [.int .u8 x, .int .i64 y] 23
  out : Blk w (n + 9) [.bool o] 4
theorem R12.below {w w' : World} {n k m i s x y o B} (h : R12 w n k m i s x y o) (hb : Below B w w') (hn : n + 9 < B) : R12 w' n k m i s x y o :=
  ⟨h.r.below hb (by omega), h.outer.below hb (by omega), h.out.below hb (by omega)⟩
theorem S12_of {n i : Nat} (h : S14 n i) : S12 n i := .inr (.inr h)
theorem S12_lt {w : World} {n a b odd p q} (h : Inn w n a b odd p q) : ∀ k, S12 n k → k < w.heap.size := by
  intro k hk
  have := h.out.lt
  unfold S12 S14 at hk
  omega
theorem f12_odd (n : Nat) (a b p q : Int) (w : World) (h : Inn w n a b true p q) :
    Calls Try.prog 12 (cap12 n) w fun e w' => (∃ v older, e = .panicked ({ v := .iface 8 v, recovered := false } :: older) ∧ NoExit older ∧ R12 w' n 0 0 false 1 0 0 false) ∧ Keeps (S12 n) w w' := by
  have hmf : ∀ (fn : Fn) (first cap : Array Value) (w : World), (Instr.makeFunc fn first cap).run Try.prog w = .ok (.func fn first cap) w := fun _ _ _ _ => rfl
  have HC := hide (c14_odd n a b p q w h)
  have H := hide h
  clear h
  unfold cap12
  go_enter Try.func12, Try.ntmps12
  go_wp2_with fail
  refine HC.out.mono ?_
  rintro e w2 ⟨⟨v, older, rfl, hno⟩, hk, hs⟩
  have HN := hide hno
  clear hno
  go_wp2
  exact ⟨rfl, ⟨_, _, rfl, HN.out, hs, H.out.outer.keeps hk (by simp [S14]), H.out.out.keeps hk (by simp [S14])⟩, hk.weak (fun _ _ x => S12_of x)⟩
def C14 (w : World) (n : Nat) (k m : Int) (i : Bool) (s x y : Int) (o : Bool) : Prop :=
    Calls Try.prog 13 #[.func (.func 14) #[] (cap14 n)] w fun e w' => e = .returned (.tuple #[.agg #[.int .u8 x, .int .i64 y], .bool o, .int .i64 0]) ∧ Keeps (S14 n) w w' ∧ R14 w' n k m i s
theorem R14.set {w : World} {n k m i s} (h : R14 w n k m i s) {b j : Nat} (hb : n + 7 < b) (u : Value) : R14 (w.setCell ⟨b, j, none⟩ u) n k m i s :=
  ⟨h.inner.other (p := ⟨b, j, none⟩) (by simp; omega) u, h.is.other (p := ⟨b, j, none⟩) (by simp; omega) u, h.steps.other (p := ⟨b, j, none⟩) (by simp; omega) u⟩
theorem f12_ok (n : Nat) (a b p q k m s x y : Int) (i o odd : Bool) (w : World) (h : Inn w n a b odd p q) (hc : C14 w n k m i s x y o) :
    Calls Try.prog 12 (cap12 n) w fun e w' => (∃ v, e = .returned v) ∧ Keeps (S12 n) w w' ∧ R12 w' n k m i s x y o := by
  have hmf : ∀ (fn : Fn) (first cap : Array Value) (w : World), (Instr.makeFunc fn first cap).run Try.prog w = .ok (.func fn first cap) w := fun _ _ _ _ => rfl
  have HC := hide hc
  have H := hide h
  clear h hc
  unfold cap12
  go_enter Try.func12, Try.ntmps12
  go_wp2_with fail
  refine HC.out.mono ?_
  rintro e w2 ⟨rfl, hk, hs⟩
  have bu := H.out.outer.keeps hk (by simp [S14])
  have bo := H.out.out.keeps hk (by simp [S14])
  have u0 : w2.cell? ⟨n + 8, 0, none⟩ = some (.int .u8 0) := bu.cell 0
  have u1 : w2.cell? ⟨n + 8, 1, none⟩ = some (.int .i64 0) := bu.cell 1
  have o0 : w2.cell? ⟨n + 9, 0, none⟩ = some (.bool false) := bo.cell 0
  have fu0 := bu.free 0 none
  have fu1 := bu.free 1 none
  have fo := bo.free 0 none
  have lu := bu.lt
  have lo := bo.lt
  have HB := hide (And.intro bu (And.intro bo hs))
  clear bu bo hs
  have HK := hide hk
  clear hk
  go_wp2
  obtain ⟨bu, bo, hs⟩ := HB.out
  go_end0
  refine ⟨⟨_, rfl⟩, ?_, ?_⟩
  · exact ((((HK.out.weak (fun _ _ x => S12_of x)).set (.inl (.inl rfl)) _).set (.inl (.inl rfl)) _).set (.inl (.inr (.inl rfl))) _)
  · exact ⟨((hs.set (by omega) _).set (by omega) _).set (by omega) _, ((bu.store 0 _).store 1 _).other (by simp) _, (((bo.other (by simp) _).other (by simp) _).store 0 _)⟩

/-! ### outside of it -/
def O12 (w : World) (n : Nat) (k m : Int) (i : Bool) (s x y : Int) (o : Bool) : Prop :=
    Calls Try.prog 11 #[.func (.func 12) #[] (cap12 n)] w fun e w' => e = .returned .nilIface ∧ Keeps (S12 n) w w' ∧ R12 w' n k m i s x y o
theorem o12_odd (n : Nat) (a b p q : Int) (w : World) (h : Inn w n a b true p q) :
    Calls Try.prog 11 #[.func (.func 12) #[] (cap12 n)] w fun e w' => ∃ v, e = .returned (.iface 8 v) ∧ Keeps (S12 n) w w' ∧ R12 w' n 0 0 false 1 0 0 false :=
  (outside_panic 12 _ w (S12 n) 8 (fun _ W => R12 W n 0 0 false 1 0 0 false) (fun _ _ => by kernel_rfl) (S12_lt h) (fun W0 hW => f12_odd n a b p q W0 (h.keeps hW))).mono
    fun e w' ⟨v, he, hk, W1, hR, hb⟩ => ⟨v, he, hk, hR.below hb h.out.lt⟩
theorem o12_ok (n : Nat) (a b p q k m s x y : Int) (i o odd : Bool) (w : World) (h : Inn w n a b odd p q) (hc : ∀ W, Inn W n a b odd p q → C14 W n k m i s x y o) : O12 w n k m i s x y o :=
  (outside_ret 12 _ w (S12 n) (fun W => R12 W n k m i s x y o) (fun _ _ => by kernel_rfl) (S12_lt h) (fun W0 hW => f12_ok n a b p q k m s x y i o odd W0 (h.keeps hW) (hc W0 (h.keeps hW)))).mono
    fun e w' ⟨he, hk, W1, hR, hb⟩ => ⟨he, hk, hR.below hb h.out.lt⟩
theorem o12_ff (n : Nat) (a b p q : Int) (w : World) (h : Inn w n a b false p q) (hp : thereB p = true) (hp0 : 0 < p) (hq : thereB q = true) (hq0 : 0 < q) : O12 w n p a true 101 q b true :=
  o12_ok n a b p q p a 101 q b true true false w h fun W hW => c14_fault n a b p q p a 1 true W hW (by omega) (by omega) hq hq0 fun W hW => c15_fault n a b p q W hW hp hp0
theorem o12_rf (n : Nat) (a b q : Int) (w : World) (h : Inn w n a b false 0 q) (hq : thereB q = true) (hq0 : 0 < q) : O12 w n 0 0 false 111 q b true :=
  o12_ok n a b 0 q 0 0 111 q b false true false w h fun W hW => c14_fault n a b 0 q 0 0 11 false W hW (by omega) (by omega) hq hq0 fun W hW => c15_ret n a b q W hW
theorem o12_fr (n : Nat) (a b p : Int) (w : World) (h : Inn w n a b false p 0) (hp : thereB p = true) (hp0 : 0 < p) : O12 w n p a true 1101 0 0 false :=
  o12_ok n a b p 0 p a 1101 0 0 true false false w h fun W hW => c14_ret n a b p p a 1 true W hW (by omega) (by omega) fun W hW => c15_fault n a b p 0 W hW hp hp0
theorem o12_rr (n : Nat) (a b : Int) (w : World) (h : Inn w n a b false 0 0) : O12 w n 0 0 false 1111 0 0 false :=
  o12_ok n a b 0 0 0 0 1111 0 0 false false false w h fun W hW => c14_ret n a b 0 0 0 11 false W hW (by omega) (by omega) fun W hW => c15_ret n a b 0 W hW
end Go.Proofs.Ytfjofiofgjlgiaa
