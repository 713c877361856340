/-
  Walks over layer 35: Name, the reference's Worse, the meter. No condition.
-/
import Derived.Test.YtfjofiofgjlgiaaD
namespace Go.Proofs.Ytfjofiofgjlgiaa
open Go.RowKit
/-! ### Name -/
def nameOf (k : Int) : ByteArray := if k = 1 then ⟨#[102, 117, 101, 108]⟩ else if k = 2 then ⟨#[115, 105, 122, 101]⟩ else ⟨#[]⟩
theorem name_any (k : Int) (w : World) :
    Calls Try.prog 34 #[.int .u8 k] w fun e w' => e = .returned (.string (nameOf k)) ∧ w = w' := by
  have ix1 : ∀ w, (Instr.index 75 (.agg #[.string ⟨#[]⟩, .string ⟨#[102, 117, 101, 108]⟩, .string ⟨#[115, 105, 122, 101]⟩]) (.int .u8 1)).run Try.prog w = .ok (.string ⟨#[102, 117, 101, 108]⟩) w := fun _ => by kernel_rfl
  have ix2 : ∀ w, (Instr.index 75 (.agg #[.string ⟨#[]⟩, .string ⟨#[102, 117, 101, 108]⟩, .string ⟨#[115, 105, 122, 101]⟩]) (.int .u8 2)).run Try.prog w = .ok (.string ⟨#[115, 105, 122, 101]⟩) w := fun _ => by kernel_rfl
  by_cases h1 : k = 1
  · subst h1
    have ht : thereB 1 = true := by decide
    go_enter Try.func34, Try.ntmps34
    go_wp2_with (go_at_call 43; refine (there_any _ _).mono ?_; rintro e w' ⟨rfl, rfl⟩)
    go_ret
    exact ⟨rfl, rfl⟩
  · by_cases h2 : k = 2
    · subst h2
      have ht : thereB 2 = true := by decide
      go_enter Try.func34, Try.ntmps34
      go_wp2_with (go_at_call 43; refine (there_any _ _).mono ?_; rintro e w' ⟨rfl, rfl⟩)
      go_ret
      exact ⟨rfl, rfl⟩
    · have ht : thereB k = false := by unfold thereB; simp; omega
      have hn : nameOf k = ⟨#[]⟩ := by simp [nameOf, h1, h2]
      rw [hn]
      clear hn h1 h2 ix1 ix2
      go_enter Try.func34, Try.ntmps34
      go_wp2_with (go_at_call 43; refine (there_any _ _).mono ?_; rintro e w' ⟨rfl, rfl⟩)
      go_ret
      exact ⟨rfl, rfl⟩

/-! ### the reference's Worse -/
theorem rworse_any (a0 a1 b0 b1 : Int) (w : World) :
    Calls Try.prog 33 #[.agg #[.int .i64 a0, .int .i64 a1], .agg #[.int .i64 b0, .int .i64 b1]] w fun e w' =>
      e = .returned (bif wK a0 a1 b0 b1 then .agg #[.int .i64 b0, .int .i64 b1] else .agg #[.int .i64 a0, .int .i64 a1]) ∧ Keeps Non w w' := by
  by_cases h1 : b0 < a0
  · have hw : wK a0 a1 b0 b1 = true := by simp [wK, h1]
    rw [hw]
    clear hw
    have h2 : (a0 != b0) = true := by simp; omega
    go_enter Try.func33, Try.ntmps33
    go_wp2
    exact bodyPost_ret (v := .agg #[.int .i64 b0, .int .i64 b1]) (by simp [results, Try.results33, go_sem]) rfl ⟨rfl, by repeat (first | exact Keeps.refl _ _ | apply Keeps.alloc)⟩
  · by_cases h2 : b0 = a0
    · subst h2
      by_cases h3 : a1 < b1
      · have hw : wK b0 a1 b0 b1 = true := by simp [wK, h3]
        rw [hw]
        clear hw
        go_enter Try.func33, Try.ntmps33
        go_wp2
        exact bodyPost_ret (v := .agg #[.int .i64 b0, .int .i64 b1]) (by simp [results, Try.results33, go_sem]) rfl ⟨rfl, by repeat (first | exact Keeps.refl _ _ | apply Keeps.alloc)⟩
      · have hw : wK b0 a1 b0 b1 = false := by simp [wK, h3]
        rw [hw]
        clear hw
        go_enter Try.func33, Try.ntmps33
        go_wp2
        exact bodyPost_ret (v := .agg #[.int .i64 b0, .int .i64 a1]) (by simp [results, Try.results33, go_sem]) rfl ⟨rfl, by repeat (first | exact Keeps.refl _ _ | apply Keeps.alloc)⟩
    · have hw : wK a0 a1 b0 b1 = false := by simp [wK, h1, h2]
      rw [hw]
      clear hw
      have h3 : (a0 != b0) = true := by simp; omega
      go_enter Try.func33, Try.ntmps33
      go_wp2
      exact bodyPost_ret (v := .agg #[.int .i64 a0, .int .i64 a1]) (by simp [results, Try.results33, go_sem]) rfl ⟨rfl, by repeat (first | exact Keeps.refl _ _ | apply Keeps.alloc)⟩

/-! ### the meter -/
/-- Block b is a meter with this fuel, that much left, and that much used. -/
def Mtr (w : World) (b : Nat) (f l u : Int) : Prop := Blk w b [.int .i64 f, .int .i64 l, .int .i64 u, .bool true] 70

theorem new_ok (f : Int) (w : World) (h0 : 0 ≤ f) (h1 : f ≤ 1048576) :
    Calls Try.prog 27 #[.int .i64 f] w fun e w' => e = .returned (.tuple #[.pointer (some ⟨w.heap.size, 0, none⟩), .int .i64 0]) ∧ Mtr w' w.heap.size f f 0 ∧ Keeps Non w w' ∧ w.heap.size < w'.heap.size := by
  have h2 : ¬ 1048576 < f := by omega
  go_enter Try.func27, Try.ntmps27
  go_wp2
  go_ret2
  exact ⟨rfl, Blk.new w _ _, (Keeps.refl _ _).alloc _, by simp⟩
theorem new_bad (f : Int) (w : World) (h : f < 0 ∨ 1048576 < f) :
    Calls Try.prog 27 #[.int .i64 f] w fun e w' => e = .returned (.tuple #[.pointer none, .int .i64 2]) ∧ w = w' := by
  by_cases h1 : f < 0
  · clear h
    go_enter Try.func27, Try.ntmps27
    go_wp2
    go_ret2
    exact ⟨rfl, rfl⟩
  · have h2 : 1048576 < f := by omega
    clear h
    go_enter Try.func27, Try.ntmps27
    go_wp2
    go_ret2
    exact ⟨rfl, rfl⟩

theorem is_any (b : Nat) (f l u : Int) (w : World) (hm : Mtr w b f l u) :
    Calls Try.prog 52 #[.pointer (some ⟨b, 0, none⟩)] w fun e w' => e = .returned (.bool true) ∧ w = w' := by
  unfold Mtr at hm
  have c3 : w.cell? ⟨b, 3, none⟩ = some (.bool true) := hm.cell 3
  have q : ∀ w, (binOp .neq 47 (.pointer (some ⟨b, 0, none⟩)) (.pointer none)).run Try.prog w = .ok (.bool true) w := fun _ => by kernel_rfl
  go_enter Try.func52, Try.ntmps52
  go_wp2
  go_ret
  exact ⟨rfl, rfl⟩

theorem left_any (b : Nat) (f l u : Int) (w : World) (hm : Mtr w b f l u) :
    Calls Try.prog 31 #[.pointer (some ⟨b, 0, none⟩)] w fun e w' => e = .returned (.int .i64 l) ∧ w = w' := by
  have hm' := hm
  unfold Mtr at hm'
  have c3 : w.cell? ⟨b, 1, none⟩ = some (.int .i64 l) := hm'.cell 1
  go_enter Try.func31, Try.ntmps31
  go_wp2_with (go_at_call 52; refine (is_any _ _ _ _ _ hm).mono ?_; rintro e w' ⟨rfl, rfl⟩)
  go_ret
  exact ⟨rfl, rfl⟩
theorem used_any (b : Nat) (f l u : Int) (w : World) (hm : Mtr w b f l u) :
    Calls Try.prog 32 #[.pointer (some ⟨b, 0, none⟩)] w fun e w' => e = .returned (.int .i64 u) ∧ w = w' := by
  have hm' := hm
  unfold Mtr at hm'
  have c3 : w.cell? ⟨b, 2, none⟩ = some (.int .i64 u) := hm'.cell 2
  go_enter Try.func32, Try.ntmps32
  go_wp2_with (go_at_call 52; refine (is_any _ _ _ _ _ hm).mono ?_; rintro e w' ⟨rfl, rfl⟩)
  go_ret
  exact ⟨rfl, rfl⟩
theorem fill_any (b : Nat) (f l u : Int) (w : World) (hm : Mtr w b f l u) :
    Calls Try.prog 28 #[.pointer (some ⟨b, 0, none⟩)] w fun e w' => e = .returned (.int .i64 0) ∧ Mtr w' b f f u ∧ Keeps (fun i => i = b) w w' := by
  have hm' := hm
  unfold Mtr at hm'
  have c0 : w.cell? ⟨b, 0, none⟩ = some (.int .i64 f) := hm'.cell 0
  have c1 : w.cell? ⟨b, 1, none⟩ = some (.int .i64 l) := hm'.cell 1
  have f1 := hm'.free 1 none
  go_enter Try.func28, Try.ntmps28
  go_wp2_with (go_at_call 52; refine (is_any _ _ _ _ _ hm).mono ?_; rintro e w' ⟨rfl, rfl⟩)
  go_ret
  exact ⟨rfl, hm'.store 1 _, (Keeps.refl (fun i => i = b) _).set (.inl rfl) _⟩
theorem use_ok (b : Nat) (f l u n : Int) (w : World) (hm : Mtr w b f l u) (h1 : 1 ≤ n) (h2 : n ≤ l) (hl : l ≤ 1048576) (hu0 : 0 ≤ u) (hu : u ≤ 9000000000000000000) :
    Calls Try.prog 30 #[.pointer (some ⟨b, 0, none⟩), .int .i64 n] w fun e w' => e = .returned (.int .i64 0) ∧ Mtr w' b f (l - n) (u + n) ∧ Keeps (fun i => i = b) w w' := by
  have hm' := hm
  unfold Mtr at hm'
  have c1 : w.cell? ⟨b, 1, none⟩ = some (.int .i64 l) := hm'.cell 1
  have c2 : w.cell? ⟨b, 2, none⟩ = some (.int .i64 u) := hm'.cell 2
  have f1 := hm'.free 1 none
  have f2 := hm'.free 2 none
  go_enter Try.func30, Try.ntmps30
  go_wp2_with (go_at_call 52; refine (is_any _ _ _ _ _ hm).mono ?_; rintro e w' ⟨rfl, rfl⟩)
  go_ret
  exact ⟨rfl, (hm'.store 1 _).store 2 _, ((Keeps.refl (fun i => i = b) _).set (.inl rfl) _).set (.inl rfl) _⟩
theorem use_arg (b : Nat) (f l u n : Int) (w : World) (hm : Mtr w b f l u) (h1 : n < 1) :
    Calls Try.prog 30 #[.pointer (some ⟨b, 0, none⟩), .int .i64 n] w fun e w' => e = .returned (.int .i64 2) ∧ w = w' := by
  go_enter Try.func30, Try.ntmps30
  go_wp2_with (go_at_call 52; refine (is_any _ _ _ _ _ hm).mono ?_; rintro e w' ⟨rfl, rfl⟩)
  go_ret
  exact ⟨rfl, rfl⟩
theorem use_no (b : Nat) (f l u n : Int) (w : World) (hm : Mtr w b f l u) (h1 : 1 ≤ n) (h2 : l < n) :
    Calls Try.prog 30 #[.pointer (some ⟨b, 0, none⟩), .int .i64 n] w fun e w' => e = .panicked [{ v := .iface 23 (flt 1 n), recovered := false }] ∧ w = w' := by
  have hm' := hm
  unfold Mtr at hm'
  have c1 : w.cell? ⟨b, 1, none⟩ = some (.int .i64 l) := hm'.cell 1
  unfold flt
  go_enter Try.func30, Try.ntmps30
  go_wp2_with (first | (go_at_call 52; refine (is_any _ _ _ _ _ hm).mono ?_; rintro e w' ⟨rfl, rfl⟩) | (go_at_call 17; refine (throw_good _ _ thereB_1 _).mono ?_; rintro e w' ⟨rfl, rfl⟩))
  exact ⟨rfl, rfl, rfl⟩
end Go.Proofs.Ytfjofiofgjlgiaa
