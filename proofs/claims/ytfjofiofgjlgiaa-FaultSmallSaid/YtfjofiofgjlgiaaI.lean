/-
  Walks over layer 35: Or. No condition.
-/
import Derived.Test.YtfjofiofgjlgiaaG
namespace Go.Proofs.Ytfjofiofgjlgiaa
open Go.RowKit
/-! ### Or -/
theorem orI_ret (g g2 : Nat) (cap cap2 : Array Value) (kd : Int) (w : World) (S : Nat → Prop) (R : World → Prop) (x : Int) (hkd : thereB kd = true) (eg : Enters g) (hS : ∀ k, S k → k < w.heap.size)
    (h : ∀ W0, Keeps Non w W0 → Calls Try.prog g cap W0 fun e W1 => e = .returned (Value.int .i64 x) ∧ Keeps S W0 W1 ∧ R W1) :
    Calls Try.prog 38 #[.func (.func g) #[] cap, .int .u8 kd, .func (.func g2) #[] cap2] w fun e w' => e = .returned (.tuple #[Value.int .i64 x, .int .i64 0]) ∧ Keeps S w w' ∧ ∃ W1, R W1 ∧ Below w.heap.size W1 w' := by
  have hf1 : ∀ w, (binOp .eql 52 (.func (.func g) #[] cap) .nilFunc).run Try.prog w = .ok (.bool false) w := fun _ => by kernel_rfl
  have hf2 : ∀ w, (binOp .eql 64 (.func (.func g2) #[] cap2) .nilFunc).run Try.prog w = .ok (.bool false) w := fun _ => by kernel_rfl
  go_enter Try.func38, Try.ntmps38
  go_wp2_with (first | (go_at_call 43; refine (there_any _ _).mono ?_; rintro e w' ⟨rfl, rfl⟩) | (go_at_call 58; refine (tryI_ret g cap _ S R x eg hS h).mono ?_; rintro e w' ⟨rfl, hk, W1, hR, hb⟩; unfold flt))
  go_ret2
  exact ⟨rfl, ‹Keeps S w _›.alloc _, _, ‹R _›, ‹Below w.heap.size _ _›.alloc (‹Keeps S w _›.size) _⟩
theorem orI_other (g g2 : Nat) (cap cap2 : Array Value) (kd k m : Int) (w : World) (S : Nat → Prop) (R : World → Prop) (hkd : thereB kd = true) (hth : thereB k = true) (hne : (k != kd) = true) (eg : Enters g) (hS : ∀ k, S k → k < w.heap.size)
    (h : ∀ W0, Keeps Non w W0 → Calls Try.prog g cap W0 fun e W1 => (∃ older, e = .panicked ({ v := .iface 23 (flt k m), recovered := false } :: older) ∧ NoExit older) ∧ Keeps S W0 W1 ∧ R W1) :
    Calls Try.prog 38 #[.func (.func g) #[] cap, .int .u8 kd, .func (.func g2) #[] cap2] w fun e w' => e = .panicked [{ v := .iface 23 (flt k m), recovered := false }] ∧ Keeps S w w' ∧ ∃ W1, R W1 ∧ Below w.heap.size W1 w' := by
  have hf1 : ∀ w, (binOp .eql 52 (.func (.func g) #[] cap) .nilFunc).run Try.prog w = .ok (.bool false) w := fun _ => by kernel_rfl
  have hf2 : ∀ w, (binOp .eql 64 (.func (.func g2) #[] cap2) .nilFunc).run Try.prog w = .ok (.bool false) w := fun _ => by kernel_rfl
  have HC := hide (tryI_fault g cap w S R k m hth eg hS h)
  clear h hth
  unfold flt at *
  go_enter Try.func38, Try.ntmps38
  go_wp2_with (first | (go_at_call 43; refine (there_any _ _).mono ?_; rintro e w' ⟨rfl, rfl⟩) | (go_at_call 58; refine HC.out.mono ?_; rintro e w' ⟨rfl, hk, W1, hR, hb⟩))
  exact ⟨rfl, rfl, ‹Keeps S w _›.alloc _, _, ‹R _›, ‹Below w.heap.size _ _›.alloc (‹Keeps S w _›.size) _⟩
theorem orI_same (g g2 : Nat) (cap cap2 : Array Value) (k m : Int) (w : World) (S S2 : Nat → Prop) (R R2 : World → Prop) (y : Int) (hth : thereB k = true) (eg : Enters g) (eg2 : Enters g2) (hS : ∀ k, S k → k < w.heap.size)
    (h : ∀ W0, Keeps Non w W0 → Calls Try.prog g cap W0 fun e W1 => (∃ older, e = .panicked ({ v := .iface 23 (flt k m), recovered := false } :: older) ∧ NoExit older) ∧ Keeps S W0 W1 ∧ R W1)
    (h2 : ∀ W0 W1, Keeps S w W0 → R W1 → Below w.heap.size W1 W0 → Calls Try.prog g2 (#[flt k m] ++ cap2) W0 fun e W2 => e = .returned (Value.int .i64 y) ∧ Keeps S2 W0 W2 ∧ R2 W2) :
    Calls Try.prog 38 #[.func (.func g) #[] cap, .int .u8 k, .func (.func g2) #[] cap2] w fun e w' => e = .returned (.tuple #[Value.int .i64 y, .int .i64 0]) ∧ Keeps (fun i => S i ∨ S2 i) w w' ∧ R2 w' := by
  have hf1 : ∀ w, (binOp .eql 52 (.func (.func g) #[] cap) .nilFunc).run Try.prog w = .ok (.bool false) w := fun _ => by kernel_rfl
  have hf2 : ∀ w, (binOp .eql 64 (.func (.func g2) #[] cap2) .nilFunc).run Try.prog w = .ok (.bool false) w := fun _ => by kernel_rfl
  have HC := hide (tryI_fault g cap w S R k m hth eg hS h)
  have H2 := hide h2
  clear h h2
  unfold flt at *
  unfold Enters at eg2
  have q : (k != k) = false := by simp
  go_enter Try.func38, Try.ntmps38
  go_wp2_with (first | (go_at_call 43; refine (there_any _ _).mono ?_; rintro e w' ⟨rfl, rfl⟩) | (go_at_call 58; refine HC.out.mono ?_; rintro e w' ⟨rfl, hk, W1, hR, hb⟩))
  refine (H2.out _ _ (‹Keeps S w _›.alloc _) ‹R _› (‹Below w.heap.size _ _›.alloc (‹Keeps S w _›.size) _)).mono ?_
  rintro e W2 ⟨rfl, hk2, hR2⟩
  go_wp2
  go_ret2
  exact ⟨rfl, ((hk.alloc _).weak (fun _ _ x => .inl x)).trans hk2 (fun _ _ x => .inr x), hR2⟩

end Go.Proofs.Ytfjofiofgjlgiaa
