/-
  Walks over layer 35: Catch of a fault and of another panic; Fits, Worse, Name, the meter. No condition.
-/
import Derived.Test.YtfjofiofgjlgiaaC
namespace Go.Proofs.Ytfjofiofgjlgiaa
open Go.RowKit
theorem catch_fault (g : Nat) (cap : Array Value) (w : World) (S : Nat → Prop) (k m : Int) (R : World → Prop) (hth : thereB k = true) (eg : Enters g) (hS : ∀ k, S k → k < w.heap.size)
    (h : ∀ W0, Keeps Non w W0 → Calls Try.prog g cap W0 fun e W1 => (∃ older, e = .panicked ({ v := .iface 23 (flt k m), recovered := false } :: older) ∧ NoExit older) ∧ Keeps S W0 W1 ∧ R W1) :
    Calls Try.prog 13 #[.func (.func g) #[] cap] w fun e w' => e = .returned (.tuple #[flt k m, .bool true, .int .i64 0]) ∧ Keeps S w w' ∧ ∃ W1, R W1 ∧ Below w.heap.size W1 w' := by
  have hf : ∀ w, (binOp .eql 1 (.func (.func g) #[] cap) .nilFunc).run Try.prog w = .ok (.bool false) w := fun _ => by kernel_rfl
  go_enter Try.func13, Try.ntmps13
  go_wp2_with fail
  refine (caught_fault g cap _ S k m R hth eg (fun k hk => by have := hS k hk; simp; omega) (fun W0 hW => h W0 (((Keeps.refl _ _).alloc _).then hW))).mono ?_
  rintro e w1 ⟨rfl, hk, W1, hR, hb⟩
  have ha : Blk w1 w.heap.size [.int .u8 0, .int .i64 0] 23 := (Blk.new w [.int .u8 0, .int .i64 0] 23).keeps hk (fun x => Nat.lt_irrefl _ (hS _ x))
  have la := ha.lt
  have a0 : w1.cell? ⟨w.heap.size, 0, none⟩ = some (.int .u8 0) := ha.cell 0
  have a1 : w1.cell? ⟨w.heap.size, 1, none⟩ = some (.int .i64 0) := ha.cell 1
  have fa0 := ha.free 0 none
  have fa1 := ha.free 1 none
  clear hth
  unfold flt at *
  go_wp2
  refine bodyPost_ret (v := .tuple #[.agg #[.int .u8 k, .int .i64 m], .bool true, .int .i64 0]) (by simp [results, Try.results13, go_sem, la, a0, a1]) rfl ⟨rfl, ?_, W1, hR, ?_⟩
  · exact ((((((Keeps.refl S w).alloc _).then hk).set (.inr (Nat.le_refl _)) _).set (.inr (Nat.le_refl _)) _).alloc _)
  · exact Below.alloc (below_set (below_set (hb.mono (by simp)) (Nat.le_refl _) _) (Nat.le_refl _) _) (by simp; omega) _

theorem catch_on (g : Nat) (cap : Array Value) (w : World) (S : Nat → Prop) (R : World → Prop) (eg : Enters g)
    (h : ∀ W0, Keeps Non w W0 → Calls Try.prog g cap W0 fun e W1 => (∃ v older, e = .panicked ({ v := .iface 8 v, recovered := false } :: older) ∧ NoExit older) ∧ Keeps S W0 W1 ∧ R W1) :
    Calls Try.prog 13 #[.func (.func g) #[] cap] w fun e w' => (∃ v older, e = .panicked ({ v := .iface 8 v, recovered := false } :: older) ∧ NoExit older) ∧ Keeps S w w' ∧ ∃ W1, R W1 ∧ Below w.heap.size W1 w' := by
  have hf : ∀ w, (binOp .eql 1 (.func (.func g) #[] cap) .nilFunc).run Try.prog w = .ok (.bool false) w := fun _ => by kernel_rfl
  go_enter Try.func13, Try.ntmps13
  go_wp2_with fail
  refine (caught_on g cap _ S R eg (fun W0 hW => h W0 (((Keeps.refl _ _).alloc _).then hW))).mono ?_
  rintro e w1 ⟨⟨v, older, rfl, hno⟩, hk, W1, hR, hb⟩
  have H := hide hno
  clear hno
  go_wp2
  exact ⟨rfl, ⟨v, older, rfl, H.out⟩, ((Keeps.refl S w).alloc _).then hk, W1, hR, hb.mono (by simp)⟩

/-! ### Fits -/
theorem fits_yes (s : ByteArray) (most : Int) (w : World) (_hs : s.size ≤ 1048576) (h : most < 0 ∨ (s.size : Int) ≤ most) :
    Calls Try.prog 25 #[.string s, .int .i64 most] w fun e w' => e = .returned (.string s) ∧ w = w' := by
  by_cases h1 : most < 0
  · go_enter Try.func25, Try.ntmps25
    go_wp2
    go_ret
    exact ⟨rfl, rfl⟩
  · by_cases h2 : 1048576 < most
    · go_enter Try.func25, Try.ntmps25
      go_wp2
      go_ret
      exact ⟨rfl, rfl⟩
    · go_enter Try.func25, Try.ntmps25
      go_wp2
      go_ret
      exact ⟨rfl, rfl⟩
theorem thereB_1 : thereB 1 = true := by decide
theorem thereB_2 : thereB 2 = true := by decide
theorem fits_no (s : ByteArray) (most : Int) (w : World) (h0 : 0 ≤ most) (_hs : s.size ≤ 1048576) (h : most < (s.size : Int)) :
    Calls Try.prog 25 #[.string s, .int .i64 most] w fun e w' => e = .panicked [{ v := .iface 23 (flt 2 s.size), recovered := false }] ∧ w = w' := by
  have h2 : ¬ 1048576 < most := by omega
  unfold flt
  go_enter Try.func25, Try.ntmps25
  go_wp2_with (go_at_call 17; refine (throw_good _ _ thereB_2 _).mono ?_; rintro e w' ⟨rfl, rfl⟩)
  exact ⟨rfl, rfl, rfl⟩

/-! ### Worse -/
/-- The fault of two that comes first. -/
def wK (a0 a1 b0 b1 : Int) : Bool := decide (b0 < a0 ∨ b0 = a0 ∧ a1 < b1)
theorem worse_any (a0 a1 b0 b1 : Int) (w : World) :
    Calls Try.prog 26 #[flt a0 a1, flt b0 b1] w fun e w' => e = .returned (bif wK a0 a1 b0 b1 then flt b0 b1 else flt a0 a1) ∧ Keeps Non w w' := by
  by_cases h1 : b0 < a0
  · have hw : wK a0 a1 b0 b1 = true := by simp [wK, h1]
    rw [hw]
    clear hw
    unfold flt
    go_enter Try.func26, Try.ntmps26
    go_wp2
    exact bodyPost_ret (v := .agg #[.int .u8 b0, .int .i64 b1]) (by simp [results, Try.results26, go_sem]) rfl ⟨rfl, by repeat (first | exact Keeps.refl _ _ | apply Keeps.alloc)⟩
  · by_cases h2 : b0 = a0
    · subst h2
      by_cases h3 : a1 < b1
      · have hw : wK b0 a1 b0 b1 = true := by simp [wK, h3]
        rw [hw]
        clear hw
        unfold flt
        go_enter Try.func26, Try.ntmps26
        go_wp2
        exact bodyPost_ret (v := .agg #[.int .u8 b0, .int .i64 b1]) (by simp [results, Try.results26, go_sem]) rfl ⟨rfl, by repeat (first | exact Keeps.refl _ _ | apply Keeps.alloc)⟩
      · have hw : wK b0 a1 b0 b1 = false := by simp [wK, h3]
        rw [hw]
        clear hw
        unfold flt
        go_enter Try.func26, Try.ntmps26
        go_wp2
        exact bodyPost_ret (v := .agg #[.int .u8 b0, .int .i64 a1]) (by simp [results, Try.results26, go_sem]) rfl ⟨rfl, by repeat (first | exact Keeps.refl _ _ | apply Keeps.alloc)⟩
    · have hw : wK a0 a1 b0 b1 = false := by simp [wK, h1, h2]
      rw [hw]
      clear hw
      unfold flt
      go_enter Try.func26, Try.ntmps26
      go_wp2
      exact bodyPost_ret (v := .agg #[.int .u8 a0, .int .i64 a1]) (by simp [results, Try.results26, go_sem]) rfl ⟨rfl, by repeat (first | exact Keeps.refl _ _ | apply Keeps.alloc)⟩
end Go.Proofs.Ytfjofiofgjlgiaa
