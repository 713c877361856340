/-
  The walk over FaultInner: the closures within each other. No condition.
-/
import Derived.Test.YtfjofiofgjlgiaaK
namespace Go.Proofs.Ytfjofiofgjlgiaa
open Go.RowKit

/-- The variables of FaultInner, before anything ran. -/
structure Inn (w : World) (n : Nat) (a b : Int) (odd : Bool) (p q : Int) : Prop where
  a : Blk w n [.int .i64 a] 3
  b : Blk w (n + 1) [.int .i64 b] 3
  odd : Blk w (n + 2) [.bool odd] 4
  p : Blk w (n + 3) [.int .u8 p] 5
  q : Blk w (n + 4) [.int .u8 q] 5
  inner : Blk w (n + 5) [.int .u8 0, .int .i64 0] 23
  is : Blk w (n + 6) [.bool false] 4
  steps : Blk w (n + 7) [.int .i64 0] 3
  outer : Blk w (n + 8) [.int .u8 0, .int .i64 0] 23
  out : Blk w (n + 9) [.bool false] 4
theorem Inn.keeps {w w' : World} {n a b odd p q} (h : Inn w n a b odd p q) (k : Keeps Non w w') : Inn w' n a b odd p q :=
  ⟨h.a.keeps k id, h.b.keeps k id, h.odd.keeps k id, h.p.keeps k id, h.q.keeps k id, h.inner.keeps k id, h.is.keeps k id, h.steps.keeps k id, h.outer.keeps k id, h.out.keeps k id⟩

def ptr (k : Nat) : Value := .pointer (some ⟨k, 0, none⟩)
def cap15 (n : Nat) : Array Value := #[.pointer (some ⟨n + 7, 0, none⟩), .pointer (some ⟨n + 2, 0, none⟩), .pointer (some ⟨n, 0, none⟩), .pointer (some ⟨n + 3, 0, none⟩)]
def S15 (n : Nat) : Nat → Prop := fun i => i = n + 7

theorem f15_odd (n : Nat) (a b p q : Int) (w : World) (h : Inn w n a b true p q) :
    Calls Try.prog 15 (cap15 n) w fun e w' => (∃ v older, e = .panicked ({ v := .iface 8 v, recovered := false } :: older) ∧ NoExit older) ∧ Keeps (S15 n) w w' ∧ Blk w' (n + 7) [.int .i64 1] 3 := by
  have s0 : w.cell? ⟨n + 7, 0, none⟩ = some (.int .i64 0) := h.steps.cell 0
  have fs := h.steps.free 0 none
  have o0 : w.cell? ⟨n + 2, 0, none⟩ = some (.bool true) := h.odd.cell 0
  have a0 : w.cell? ⟨n, 0, none⟩ = some (.int .i64 a) := h.a.cell 0
  have H := hide h.steps
  clear h
  unfold cap15
  go_enter Try.func15, Try.ntmps15
  go_wp2_with (go_at_call 16; refine (boom_any _ _).mono ?_; rintro e w' ⟨⟨v, rfl⟩, hk⟩)
  rename_i hk
  exact ⟨rfl, ⟨_, [], rfl, rfl⟩, ((Keeps.refl (S15 n) w).set (.inl rfl) _).thenNon hk, (H.out.store 0 _).keeps hk id⟩
theorem f15_fault (n : Nat) (a b p q : Int) (w : World) (h : Inn w n a b false p q) (hp : thereB p = true) (hp0 : 0 < p) :
    Calls Try.prog 15 (cap15 n) w fun e w' => (∃ older, e = .panicked ({ v := .iface 23 (flt p a), recovered := false } :: older) ∧ NoExit older) ∧ Keeps (S15 n) w w' ∧ Blk w' (n + 7) [.int .i64 1] 3 := by
  have s0 : w.cell? ⟨n + 7, 0, none⟩ = some (.int .i64 0) := h.steps.cell 0
  have fs := h.steps.free 0 none
  have o0 : w.cell? ⟨n + 2, 0, none⟩ = some (.bool false) := h.odd.cell 0
  have a0 : w.cell? ⟨n, 0, none⟩ = some (.int .i64 a) := h.a.cell 0
  have p0 : w.cell? ⟨n + 3, 0, none⟩ = some (.int .u8 p) := h.p.cell 0
  have H := hide h.steps
  clear h
  unfold cap15 flt
  go_enter Try.func15, Try.ntmps15
  go_wp2_with (go_at_call 17; refine (throw_good _ _ hp _).mono ?_; rintro e w' ⟨rfl, rfl⟩)
  exact ⟨rfl, ⟨[], rfl, rfl⟩, ((Keeps.refl (S15 n) w).set (.inl rfl) _), (H.out.store 0 _)⟩
theorem f15_ret (n : Nat) (a b q : Int) (w : World) (h : Inn w n a b false 0 q) :
    Calls Try.prog 15 (cap15 n) w fun e w' => (∃ v, e = .returned v) ∧ Keeps (S15 n) w w' ∧ Blk w' (n + 7) [.int .i64 11] 3 := by
  have s0 : w.cell? ⟨n + 7, 0, none⟩ = some (.int .i64 0) := h.steps.cell 0
  have fs := h.steps.free 0 none
  have ls := h.steps.lt
  have o0 : w.cell? ⟨n + 2, 0, none⟩ = some (.bool false) := h.odd.cell 0
  have p0 : w.cell? ⟨n + 3, 0, none⟩ = some (.int .u8 0) := h.p.cell 0
  have H := hide h.steps
  clear h
  unfold cap15
  go_enter Try.func15, Try.ntmps15
  go_wp2
  go_end0
  exact ⟨⟨_, rfl⟩, ((Keeps.refl (S15 n) w).set (.inl rfl) _).set (.inl rfl) _, (H.out.store 0 _).store 0 _⟩

/-! ### Catch of the inner one -/
theorem S15_lt {w : World} {n a b odd p q} (h : Inn w n a b odd p q) : ∀ k, S15 n k → k < w.heap.size := by
  intro k hk
  have := h.steps.lt
  unfold S15 at hk
  omega
theorem c15_odd (n : Nat) (a b p q : Int) (w : World) (h : Inn w n a b true p q) :
    Calls Try.prog 13 #[.func (.func 15) #[] (cap15 n)] w fun e w' => (∃ v older, e = .panicked ({ v := .iface 8 v, recovered := false } :: older) ∧ NoExit older) ∧ Keeps (S15 n) w w' ∧ Blk w' (n + 7) [.int .i64 1] 3 :=
  (catch_on 15 _ w (S15 n) (fun W => Blk W (n + 7) [.int .i64 1] 3) (fun _ _ => by kernel_rfl) (fun W0 hW => f15_odd n a b p q W0 (h.keeps hW))).mono
    fun e w' ⟨he, hk, W1, hR, hb⟩ => ⟨he, hk, hR.below hb h.steps.lt⟩
theorem c15_fault (n : Nat) (a b p q : Int) (w : World) (h : Inn w n a b false p q) (hp : thereB p = true) (hp0 : 0 < p) :
    Calls Try.prog 13 #[.func (.func 15) #[] (cap15 n)] w fun e w' => e = .returned (.tuple #[.agg #[.int .u8 p, .int .i64 a], .bool true, .int .i64 0]) ∧ Keeps (S15 n) w w' ∧ Blk w' (n + 7) [.int .i64 1] 3 :=
  (catch_fault 15 _ w (S15 n) p a (fun W => Blk W (n + 7) [.int .i64 1] 3) hp (fun _ _ => by kernel_rfl) (S15_lt h) (fun W0 hW => f15_fault n a b p q W0 (h.keeps hW) hp hp0)).mono
    fun e w' ⟨he, hk, W1, hR, hb⟩ => ⟨he, hk, hR.below hb h.steps.lt⟩
theorem c15_ret (n : Nat) (a b q : Int) (w : World) (h : Inn w n a b false 0 q) :
    Calls Try.prog 13 #[.func (.func 15) #[] (cap15 n)] w fun e w' => e = .returned (.tuple #[.agg #[.int .u8 0, .int .i64 0], .bool false, .int .i64 0]) ∧ Keeps (S15 n) w w' ∧ Blk w' (n + 7) [.int .i64 11] 3 :=
  (catch_ret 15 _ w (S15 n) (fun W => Blk W (n + 7) [.int .i64 11] 3) (fun _ _ => by kernel_rfl) (S15_lt h) (fun W0 hW => f15_ret n a b q W0 (h.keeps hW))).mono
    fun e w' ⟨he, hk, W1, hR, hb⟩ => ⟨he, hk, hR.below hb h.steps.lt⟩

/-! ### The closure between -/
def cap14 (n : Nat) : Array Value := #[.pointer (some ⟨n + 7, 0, none⟩), .pointer (some ⟨n + 2, 0, none⟩), .pointer (some ⟨n, 0, none⟩), .pointer (some ⟨n + 3, 0, none⟩),
  .pointer (some ⟨n + 5, 0, none⟩), .pointer (some ⟨n + 6, 0, none⟩), .pointer (some ⟨n + 4, 0, none⟩), .pointer (some ⟨n + 1, 0, none⟩)]
def S14 (n : Nat) : Nat → Prop := fun i => i = n + 5 ∨ i = n + 6 ∨ i = n + 7
structure R14 (w : World) (n : Nat) (k m : Int) (i : Bool) (s : Int) : Prop where
  inner : Blk w (n + 5) [.int .u8 k, .int .i64 m] 23
  is : Blk w (n + 6) [.bool i] 4
  steps : Blk w (n + 7) [.int .i64 s] 3
theorem R14.below {w w' : World} {n k m i s B} (h : R14 w n k m i s) (hb : Below B w w') (hn : n + 7 < B) : R14 w' n k m i s :=
  ⟨h.inner.below hb (by omega), h.is.below hb (by omega), h.steps.below hb (by omega)⟩
theorem S14_of {n i : Nat} (h : S15 n i) : S14 n i := .inr (.inr h)

theorem f14_odd (n : Nat) (a b p q : Int) (w : World) (h : Inn w n a b true p q) :
    Calls Try.prog 14 (cap14 n) w fun e w' => (∃ v older, e = .panicked ({ v := .iface 8 v, recovered := false } :: older) ∧ NoExit older) ∧ Keeps (S14 n) w w' ∧ R14 w' n 0 0 false 1 := by
  have hmf : ∀ (fn : Fn) (first cap : Array Value) (w : World), (Instr.makeFunc fn first cap).run Try.prog w = .ok (.func fn first cap) w := fun _ _ _ _ => rfl
  have HC := hide (c15_odd n a b p q w h)
  have H := hide h
  clear h
  unfold cap14
  go_enter Try.func14, Try.ntmps14
  go_wp2_with fail
  refine HC.out.mono ?_
  rintro e w2 ⟨⟨v, older, rfl, hno⟩, hk, hs⟩
  have HN := hide hno
  clear hno
  go_wp2
  exact ⟨rfl, ⟨_, _, rfl, HN.out⟩, hk.weak (fun _ _ x => S14_of x), H.out.inner.keeps hk (by simp [S15]), H.out.is.keeps hk (by simp [S15]), hs⟩

/-- What the inner Catch returned: the fault, whether there is one, and the steps. -/
def C15 (w : World) (n : Nat) (k m : Int) (i : Bool) (s : Int) : Prop :=
    Calls Try.prog 13 #[.func (.func 15) #[] (cap15 n)] w fun e w' => e = .returned (.tuple #[.agg #[.int .u8 k, .int .i64 m], .bool i, .int .i64 0]) ∧ Keeps (S15 n) w w' ∧ Blk w' (n + 7) [.int .i64 s] 3

theorem f14_fault (n : Nat) (a b p q k m s : Int) (i : Bool) (w : World) (h : Inn w n a b false p q) (hs0 : 0 ≤ s) (hs1 : s ≤ 100) (hq : thereB q = true) (hq0 : 0 < q) (hc : C15 w n k m i s) :
    Calls Try.prog 14 (cap14 n) w fun e w' => (∃ older, e = .panicked ({ v := .iface 23 (flt q b), recovered := false } :: older) ∧ NoExit older) ∧ Keeps (S14 n) w w' ∧ R14 w' n k m i (s + 100) := by
  have hmf : ∀ (fn : Fn) (first cap : Array Value) (w : World), (Instr.makeFunc fn first cap).run Try.prog w = .ok (.func fn first cap) w := fun _ _ _ _ => rfl
  have HC := hide hc
  have H := hide h
  clear h hc
  unfold cap14 flt
  go_enter Try.func14, Try.ntmps14
  go_wp2_with fail
  refine HC.out.mono ?_
  rintro e w2 ⟨rfl, hk, hs⟩
  have bi := H.out.inner.keeps hk (by simp [S15])
  have bn := H.out.is.keeps hk (by simp [S15])
  have bq := H.out.q.keeps hk (by simp [S15])
  have bb := H.out.b.keeps hk (by simp [S15])
  have s0 : w2.cell? ⟨n + 7, 0, none⟩ = some (.int .i64 s) := hs.cell 0
  have i0 : w2.cell? ⟨n + 5, 0, none⟩ = some (.int .u8 0) := bi.cell 0
  have i1 : w2.cell? ⟨n + 5, 1, none⟩ = some (.int .i64 0) := bi.cell 1
  have n0 : w2.cell? ⟨n + 6, 0, none⟩ = some (.bool false) := bn.cell 0
  have q0 : w2.cell? ⟨n + 4, 0, none⟩ = some (.int .u8 q) := bq.cell 0
  have b0 : w2.cell? ⟨n + 1, 0, none⟩ = some (.int .i64 b) := bb.cell 0
  have fs := hs.free 0 none
  have fi0 := bi.free 0 none
  have fi1 := bi.free 1 none
  have fn := bn.free 0 none
  have li := bi.lt
  have ls := hs.lt
  have HB := hide (And.intro bi (And.intro bn hs))
  clear bi bn bq bb hs
  have HK := hide hk
  clear hk
  go_wp2_with (go_at_call 17; refine (throw_good _ _ hq _).mono ?_; rintro e w' ⟨rfl, rfl⟩)
  obtain ⟨bi, bn, hs⟩ := HB.out
  refine ⟨rfl, ⟨[], rfl, rfl⟩, ?_, ?_⟩
  · exact (((((HK.out.weak (fun _ _ x => S14_of x)).set (.inl (.inl rfl)) _).set (.inl (.inl rfl)) _).set (.inl (.inr (.inl rfl))) _).set (.inl (.inr (.inr rfl))) _)
  · exact ⟨(((bi.store 0 _).store 1 _).other (by simp) _).other (by simp) _, (((bn.other (by simp) _).other (by simp) _).store 0 _).other (by simp) _, (((hs.other (by simp) _).other (by simp) _).other (by simp) _).store 0 _⟩

theorem f14_ret (n : Nat) (a b p k m s : Int) (i : Bool) (w : World) (h : Inn w n a b false p 0) (hs0 : 0 ≤ s) (hs1 : s ≤ 100) (hc : C15 w n k m i s) :
    Calls Try.prog 14 (cap14 n) w fun e w' => (∃ v, e = .returned v) ∧ Keeps (S14 n) w w' ∧ R14 w' n k m i (s + 100 + 1000) := by
  have hmf : ∀ (fn : Fn) (first cap : Array Value) (w : World), (Instr.makeFunc fn first cap).run Try.prog w = .ok (.func fn first cap) w := fun _ _ _ _ => rfl
  have HC := hide hc
  have H := hide h
  clear h hc
  unfold cap14
  go_enter Try.func14, Try.ntmps14
  go_wp2_with fail
  refine HC.out.mono ?_
  rintro e w2 ⟨rfl, hk, hs⟩
  have bi := H.out.inner.keeps hk (by simp [S15])
  have bn := H.out.is.keeps hk (by simp [S15])
  have bq := H.out.q.keeps hk (by simp [S15])
  have bb := H.out.b.keeps hk (by simp [S15])
  have s0 : w2.cell? ⟨n + 7, 0, none⟩ = some (.int .i64 s) := hs.cell 0
  have i0 : w2.cell? ⟨n + 5, 0, none⟩ = some (.int .u8 0) := bi.cell 0
  have i1 : w2.cell? ⟨n + 5, 1, none⟩ = some (.int .i64 0) := bi.cell 1
  have n0 : w2.cell? ⟨n + 6, 0, none⟩ = some (.bool false) := bn.cell 0
  have q0 : w2.cell? ⟨n + 4, 0, none⟩ = some (.int .u8 0) := bq.cell 0
  have b0 : w2.cell? ⟨n + 1, 0, none⟩ = some (.int .i64 b) := bb.cell 0
  have fs := hs.free 0 none
  have fi0 := bi.free 0 none
  have fi1 := bi.free 1 none
  have fn := bn.free 0 none
  have li := bi.lt
  have ls := hs.lt
  have HB := hide (And.intro bi (And.intro bn hs))
  clear bi bn bq bb hs
  have HK := hide hk
  clear hk
  go_wp2
  obtain ⟨bi, bn, hs⟩ := HB.out
  go_end0
  refine ⟨⟨_, rfl⟩, ?_, ?_⟩
  · exact ((((((HK.out.weak (fun _ _ x => S14_of x)).set (.inl (.inl rfl)) _).set (.inl (.inl rfl)) _).set (.inl (.inr (.inl rfl))) _).set (.inl (.inr (.inr rfl))) _).set (.inl (.inr (.inr rfl))) _)
  · exact ⟨((((bi.store 0 _).store 1 _).other (by simp) _).other (by simp) _).other (by simp) _, ((((bn.other (by simp) _).other (by simp) _).store 0 _).other (by simp) _).other (by simp) _, ((((hs.other (by simp) _).other (by simp) _).other (by simp) _).store 0 _).store 0 _⟩
end Go.Proofs.Ytfjofiofgjlgiaa
