/-
  Functions and meters that are none; a string that is too long. No condition.
-/
import Derived.Test.YtfjofiofgjlgiaaK25
import Derived.Test.YtfjofiofgjlgiaaI
import Derived.Test.YtfjofiofgjlgiaaK
import Derived.Test.YtfjofiofgjlgiaaShelf
import Derived.Laws.OwnMore
import Derived.Laws.BytesArg
namespace Go.Proofs.Ytfjofiofgjlgiaa
open Go.RowKit
/-! ### None -/
theorem catch_nil (w : World) : Calls Try.prog 13 #[.nilFunc] w fun e w' => e = .returned (.tuple #[.agg #[.int .u8 0, .int .i64 0], .bool false, .int .i64 1]) ∧ Keeps Non w w' := by
  have q : ∀ w, (binOp .eql 1 .nilFunc .nilFunc).run Try.prog w = .ok (.bool true) w := fun _ => by kernel_rfl
  go_enter Try.func13, Try.ntmps13
  go_wp2
  refine bodyPost_ret (v := .tuple #[.agg #[.int .u8 0, .int .i64 0], .bool false, .int .i64 1]) (by simp [results, Try.results13, go_sem]) rfl ⟨rfl, ?_⟩
  exact (Keeps.refl Non w).alloc _
theorem tryS_nil (w : World) : Calls Try.prog 20 #[.nilFunc] w fun e w' => e = .returned (.tuple #[.string ⟨#[]⟩, .agg #[.int .u8 0, .int .i64 0], .bool false, .int .i64 1]) ∧ Keeps Non w w' := by
  have q : ∀ w, (binOp .eql 35 .nilFunc .nilFunc).run Try.prog w = .ok (.bool true) w := fun _ => by kernel_rfl
  go_enter Try.func20, Try.ntmps20
  go_wp2
  refine bodyPost_ret (v := .tuple #[.string ⟨#[]⟩, .agg #[.int .u8 0, .int .i64 0], .bool false, .int .i64 1]) (by simp [results, Try.results20, go_sem]) rfl ⟨rfl, ?_⟩
  exact (((Keeps.refl Non w).alloc _).alloc _).alloc _
theorem thereB_0 : thereB 0 = false := by decide
theorem thereB_3 : thereB 3 = false := by decide
theorem orI_kind (f g : Value) (k : Int) (w : World) (hk : thereB k = false) : Calls Try.prog 38 #[f, .int .u8 k, g] w fun e w' => e = .returned (.tuple #[.int .i64 0, .int .i64 350]) ∧ w = w' := by
  go_enter Try.func38, Try.ntmps38
  go_wp2_with (go_at_call 43; refine (there_any _ _).mono ?_; rintro e w' ⟨rfl, rfl⟩)
  go_ret2
  exact ⟨rfl, rfl⟩
theorem orI_nilf (g : Value) (k : Int) (w : World) (hk : thereB k = true) : Calls Try.prog 38 #[.nilFunc, .int .u8 k, g] w fun e w' => e = .returned (.tuple #[.int .i64 0, .int .i64 1]) ∧ w = w' := by
  have hf1 : ∀ w, (binOp .eql 52 .nilFunc .nilFunc).run Try.prog w = .ok (.bool true) w := fun _ => by kernel_rfl
  go_enter Try.func38, Try.ntmps38
  go_wp2_with (go_at_call 43; refine (there_any _ _).mono ?_; rintro e w' ⟨rfl, rfl⟩)
  go_ret2
  exact ⟨rfl, rfl⟩
theorem orI_nilg (f : Nat) (cap : Array Value) (k : Int) (w : World) (hk : thereB k = true) : Calls Try.prog 38 #[.func (.func f) #[] cap, .int .u8 k, .nilFunc] w fun e w' => e = .returned (.tuple #[.int .i64 0, .int .i64 1]) ∧ w = w' := by
  have hf1 : ∀ w, (binOp .eql 52 (.func (.func f) #[] cap) .nilFunc).run Try.prog w = .ok (.bool false) w := fun _ => by kernel_rfl
  have hf2 : ∀ w, (binOp .eql 64 .nilFunc .nilFunc).run Try.prog w = .ok (.bool true) w := fun _ => by kernel_rfl
  go_enter Try.func38, Try.ntmps38
  go_wp2_with (go_at_call 43; refine (there_any _ _).mono ?_; rintro e w' ⟨rfl, rfl⟩)
  go_ret2
  exact ⟨rfl, rfl⟩
theorem one_any (w : World) : Calls Try.prog 36 #[] w fun e w' => e = .returned (.int .i64 1) ∧ w = w' := by
  go_enter Try.func36, Try.ntmps36
  go_wp2
  go_ret
  exact ⟨rfl, rfl⟩
theorem orI_one (w : World) : Calls Try.prog 38 #[.func (.func 36) #[] #[], .int .u8 2, .func (.func 37) #[] #[]] w fun e w' => e = .returned (.tuple #[.int .i64 1, .int .i64 0]) ∧ Keeps Non w w' :=
  (orI_ret 36 37 #[] #[] 2 w Non (fun _ => True) 1 thereB_2 (fun _ _ => by kernel_rfl) (fun _ x => x.elim)
    (fun W0 _ => (one_any W0).mono fun e w' ⟨he, hw⟩ => ⟨he, by rw [hw]; exact Keeps.refl _ _, trivial⟩)).mono fun e w' ⟨he, hk, _⟩ => ⟨he, hk⟩
/-! ### Meters that are none -/
theorem isn_any (w : World) : Calls Try.prog 52 #[.pointer none] w fun e w' => e = .returned (.bool false) ∧ w = w' := by
  have q : ∀ w, (binOp .neq 47 (.pointer none) (.pointer none)).run Try.prog w = .ok (.bool false) w := fun _ => by kernel_rfl
  go_enter Try.func52, Try.ntmps52
  go_wp2
  go_ret
  exact ⟨rfl, rfl⟩
theorem usen_any (n : Int) (w : World) : Calls Try.prog 30 #[.pointer none, .int .i64 n] w fun e w' => e = .returned (.int .i64 1) ∧ w = w' := by
  go_enter Try.func30, Try.ntmps30
  go_wp2_with (go_at_call 52; refine (isn_any _).mono ?_; rintro e w' ⟨rfl, rfl⟩)
  go_ret
  exact ⟨rfl, rfl⟩
theorem filln_any (w : World) : Calls Try.prog 28 #[.pointer none] w fun e w' => e = .returned (.int .i64 1) ∧ w = w' := by
  go_enter Try.func28, Try.ntmps28
  go_wp2_with (go_at_call 52; refine (isn_any _).mono ?_; rintro e w' ⟨rfl, rfl⟩)
  go_ret
  exact ⟨rfl, rfl⟩
theorem leftn_any (w : World) : Calls Try.prog 31 #[.pointer none] w fun e w' => e = .returned (.int .i64 0) ∧ w = w' := by
  go_enter Try.func31, Try.ntmps31
  go_wp2_with (go_at_call 52; refine (isn_any _).mono ?_; rintro e w' ⟨rfl, rfl⟩)
  go_ret
  exact ⟨rfl, rfl⟩
theorem usedn_any (w : World) : Calls Try.prog 32 #[.pointer none] w fun e w' => e = .returned (.int .i64 0) ∧ w = w' := by
  go_enter Try.func32, Try.ntmps32
  go_wp2_with (go_at_call 52; refine (isn_any _).mono ?_; rintro e w' ⟨rfl, rfl⟩)
  go_ret
  exact ⟨rfl, rfl⟩
theorem isz_any (b : Nat) (w : World) (h : Blk w b [.int .i64 0, .int .i64 0, .int .i64 0, .bool false] 70) : Calls Try.prog 52 #[.pointer (some ⟨b, 0, none⟩)] w fun e w' => e = .returned (.bool false) ∧ w = w' := by
  have c3 : w.cell? ⟨b, 3, none⟩ = some (.bool false) := h.cell 3
  have q : ∀ w, (binOp .neq 47 (.pointer (some ⟨b, 0, none⟩)) (.pointer none)).run Try.prog w = .ok (.bool true) w := fun _ => by kernel_rfl
  go_enter Try.func52, Try.ntmps52
  go_wp2
  go_ret
  exact ⟨rfl, rfl⟩
theorem usez_any (n : Int) (b : Nat) (w : World) (h : Blk w b [.int .i64 0, .int .i64 0, .int .i64 0, .bool false] 70) : Calls Try.prog 30 #[.pointer (some ⟨b, 0, none⟩), .int .i64 n] w fun e w' => e = .returned (.int .i64 1) ∧ w = w' := by
  go_enter Try.func30, Try.ntmps30
  go_wp2_with (go_at_call 52; refine (isz_any _ _ h).mono ?_; rintro e w' ⟨rfl, rfl⟩)
  go_ret
  exact ⟨rfl, rfl⟩
theorem fillz_any (b : Nat) (w : World) (h : Blk w b [.int .i64 0, .int .i64 0, .int .i64 0, .bool false] 70) : Calls Try.prog 28 #[.pointer (some ⟨b, 0, none⟩)] w fun e w' => e = .returned (.int .i64 1) ∧ w = w' := by
  go_enter Try.func28, Try.ntmps28
  go_wp2_with (go_at_call 52; refine (isz_any _ _ h).mono ?_; rintro e w' ⟨rfl, rfl⟩)
  go_ret
  exact ⟨rfl, rfl⟩
theorem leftz_any (b : Nat) (w : World) (h : Blk w b [.int .i64 0, .int .i64 0, .int .i64 0, .bool false] 70) : Calls Try.prog 31 #[.pointer (some ⟨b, 0, none⟩)] w fun e w' => e = .returned (.int .i64 0) ∧ w = w' := by
  go_enter Try.func31, Try.ntmps31
  go_wp2_with (go_at_call 52; refine (isz_any _ _ h).mono ?_; rintro e w' ⟨rfl, rfl⟩)
  go_ret
  exact ⟨rfl, rfl⟩
theorem usedz_any (b : Nat) (w : World) (h : Blk w b [.int .i64 0, .int .i64 0, .int .i64 0, .bool false] 70) : Calls Try.prog 32 #[.pointer (some ⟨b, 0, none⟩)] w fun e w' => e = .returned (.int .i64 0) ∧ w = w' := by
  go_enter Try.func32, Try.ntmps32
  go_wp2_with (go_at_call 52; refine (isz_any _ _ h).mono ?_; rintro e w' ⟨rfl, rfl⟩)
  go_ret
  exact ⟨rfl, rfl⟩
/-! ### A string that is too long -/
theorem fits_long (s : ByteArray) (w : World) (hs : s.size = 1048577) :
    Calls Try.prog 25 #[.string s, .int .i64 (-1)] w fun e w' => e = .panicked [{ v := .iface 23 (flt 2 1048577), recovered := false }] ∧ w = w' := by
  have h2 : (1048576 : Int) < (s.size : Int) := by omega
  have e1 : (1048577 : Int) = (s.size : Int) := by omega
  rw [e1]
  clear e1 hs
  unfold flt
  go_enter Try.func25, Try.ntmps25
  go_wp2_with (go_at_call 17; refine (throw_good _ _ thereB_2 _).mono ?_; rintro e w' ⟨rfl, rfl⟩)
  exact ⟨rfl, rfl, rfl⟩
theorem made_zero (z : Value) (n j : Nat) (h : j < n) : (madeCells #[z] n)[j]? = some z := by
  rw [← Array.getElem?_toList, toList_madeCells_one, List.getElem?_replicate, if_pos h]
theorem made_cell (z : Value) (n j : Nat) (t : TypeId) (w : World) (h : j < n) : (w.alloc (.cells (madeCells #[z] n) t)).cell? ⟨w.heap.size, j, none⟩ = some z := by
  have : (w.alloc (.cells (madeCells #[z] n) t)).heap[w.heap.size]? = some (.cells (madeCells #[z] n) t (0, 0)) := by
    show (w.heap.push _)[w.heap.size]? = _
    simp
  unfold World.cell?
  rw [this]
  simpa using made_zero z n j h
theorem long_parts (w : World) (n : Nat) (hn : n ≤ 1048577) : ∃ s W1, s.size = n ∧ Keeps Non w W1 ∧
    (Instr.makeSlice 46 (.int .i64 (n : Int)) (.int .i64 (n : Int))).run Try.prog w = .ok (.slice (some ⟨w.heap.size, 0, none⟩) n n) W1 ∧
    (convert 46 9 (.slice (some ⟨w.heap.size, 0, none⟩) n n)).run Try.prog W1 = .ok (.string s) W1 := by
  obtain ⟨i0, hi, hz0, hz1, hz2⟩ := info_parts Try.Builder_Extra_169.infoByte
  have hm := run_make (P := Try.prog) w 46 5 i0 (.int .u8 0) Try.underlying46 hi hz0 .i64 .i64 (n : Int) (n : Int) (by omega) (Int.le_refl _) (by rw [hz2]; omega) (by omega)
  rw [hz1, Int.toNat_natCast, Nat.mul_one] at hm
  exact ⟨strOfNums (List.replicate n 0), _, by rw [strOfNums_size, List.length_replicate], (Keeps.refl _ _).alloc _, hm,
    run_convert_bytes_arg _ 46 5 Try.underlying46 Try.underlying5 _ 0 n n (List.replicate n 0) List.length_replicate (fun i hi => by
      rw [Nat.zero_add, List.getD_eq_getElem?_getD, List.getElem?_replicate, if_pos hi]
      exact made_cell (.int .u8 0) n i 5 w hi) 9 Try.underlying9⟩
theorem long_run (w : World) : Calls Try.prog 39 #[] w fun e w' => e = .panicked [{ v := .iface 23 (flt 2 1048577), recovered := false }] ∧ Keeps Non w w' := by
  obtain ⟨n, hn⟩ : ∃ n : Nat, n = 1048577 := ⟨_, rfl⟩
  obtain ⟨s, W1, hs, hk, hm, hc⟩ := long_parts w n (by omega)
  have HF := hide (fits_long s W1 (hs.trans hn))
  have HK := hide hk
  have e : (n : Int) = 1048577 := by omega
  rw [e] at hm
  clear hs hk e hn
  go_enter Try.func39, Try.ntmps39
  go_wp2_with (go_at_call 25; refine HF.out.mono ?_; rintro e w' ⟨rfl, rfl⟩)
  exact ⟨rfl, rfl, HK.out⟩
theorem long_out (w : World) : Calls Try.prog 11 #[.func (.func 39) #[] #[]] w fun e w' => e = .returned (.iface 23 (.agg #[.int .u8 2, .int .i64 1048577])) ∧ Keeps Non w w' := by
  refine (outside_panic 39 #[] w Non 23 (fun v _ => v = flt 2 1048577) (fun _ _ => by kernel_rfl) (fun _ x => x.elim)
    (fun W0 _ => (long_run W0).mono fun e w' ⟨he, hw⟩ => ⟨⟨_, [], he, rfl, rfl⟩, hw⟩)).mono ?_
  rintro e w' ⟨v, rfl, hk, _, rfl, _⟩
  exact ⟨rfl, hk⟩
theorem thrown_f (m : Int) (w : World) : Calls Try.prog 40 #[.iface 23 (.agg #[.int .u8 2, .int .i64 m])] w fun e w' => e = .returned (.tuple #[.int .i64 2, .int .i64 m]) ∧ Keeps Non w w' := by
  have q := eq_nil
  have t1 := ta_yes
  go_enter Try.func40, Try.ntmps40
  go_wp2
  go_region
  go_wp2
  go_ret2
  exact ⟨rfl, ((Keeps.refl _ _).alloc _).drew⟩
end Go.Proofs.Ytfjofiofgjlgiaa
