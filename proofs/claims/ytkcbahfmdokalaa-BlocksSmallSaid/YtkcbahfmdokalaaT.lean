/-
  Walks over layer 6's statements: awake. No condition.
-/
import Derived.Test.YtkcbahfmdokalaaS
import Derived.Test.YtkcbahfmdokalaaN
namespace Go.Proofs.Ytkcbahfmdokalaa
open Go.RowKit
attribute [local go_sem] onto_cell onto_frozen
set_option linter.unusedVariables false
theorem NewInts.got {w w' : World} {v : Value} {xs : List Int} (h : NewInts w w' v xs) (hb : xs.length ≤ 17592186044416) : GotInts w w' v xs := by
  obtain ⟨b, h1, h2, h3, h4⟩ := h
  exact ⟨_, _, h1, ints_of_blk h3 hb, h4⟩
/-- Numbers that were just laid down. -/
theorem ints_laid (w : World) {n : Nat} (xs : List Int) (hn : n = w.heap.size) (hb : xs.length ≤ 17592186044416) : Ints (w.alloc (.cells (xs.map (Value.int .i64)).toArray 3)) (some ⟨n, 0, none⟩) xs.length xs :=
  ints_of_blk (Blk.newAt w (xs.map (Value.int .i64)) 3 hn) hb
theorem good_small {xs : List Int} (h : ∀ x ∈ xs, 0 ≤ x ∧ x ≤ 1000) : Good xs := fun x hx => wf_of (by have := h x hx; omega) (by have := h x hx; omega)
def aNext : List (List Int) := [[1], [2], [3], [3]]
theorem rows_one {w : World} {B : Nat} {S : List Value} {xss : List (List Int)} (hB : Blk w B S 22) (hl : S.length = xss.length) (hb : xss.length ≤ 17592186044416) (h : ∀ i, i < xss.length → ∃ ai ci, S[i]? = some (.slice ai (xss.getD i []).length ci) ∧ Ints w ai (xss.getD i []).length (xss.getD i [])) : Rows w (some ⟨B, 0, none⟩) xss.length xss :=
  ⟨rfl, hb, .inr ⟨B, 0, rfl, hB.lt, fun i hi => by
    obtain ⟨ai, ci, h1, h2⟩ := h i hi
    refine ⟨ai, ci, ?_, h2⟩
    rw [hB.cell, Nat.zero_add]
    exact h1⟩⟩
theorem next_laid (w : World) (B : Nat) (hB : w.heap.size = B) :
    Rows (((((w.alloc (.cells #[.int .i64 1] 3)).alloc (.cells #[.int .i64 2] 3)).alloc (.cells #[.int .i64 3] 3)).alloc (.cells #[.int .i64 3] 3)).alloc (.cells #[.slice (some ⟨B, 0, none⟩) 1 1, .slice (some ⟨B + 1, 0, none⟩) 1 1, .slice (some ⟨B + 1 + 1, 0, none⟩) 1 1, .slice (some ⟨B + 1 + 1 + 1, 0, none⟩) 1 1] 22)) (some ⟨B + 1 + 1 + 1 + 1, 0, none⟩) 4 aNext := by
  have i0 := ints_laid w [1] hB.symm (by simp)
  have i1 := ints_laid (w.alloc (.cells #[.int .i64 1] 3)) [2] (n := B + 1) (by simp [hB]) (by simp)
  have i2 := ints_laid ((w.alloc (.cells #[.int .i64 1] 3)).alloc (.cells #[.int .i64 2] 3)) [3] (n := B + 1 + 1) (by simp [hB]) (by simp)
  have i3 := ints_laid (((w.alloc (.cells #[.int .i64 1] 3)).alloc (.cells #[.int .i64 2] 3)).alloc (.cells #[.int .i64 3] 3)) [3] (n := B + 1 + 1 + 1) (by simp [hB]) (by simp)
  have k := fun (u : World) (o : Obj) => (Keeps.refl Non u).alloc o
  have hBk := Blk.newAt ((((w.alloc (.cells #[.int .i64 1] 3)).alloc (.cells #[.int .i64 2] 3)).alloc (.cells #[.int .i64 3] 3)).alloc (.cells #[.int .i64 3] 3)) [.slice (some ⟨B, 0, none⟩) 1 1, .slice (some ⟨B + 1, 0, none⟩) 1 1, .slice (some ⟨B + 1 + 1, 0, none⟩) 1 1, .slice (some ⟨B + 1 + 1 + 1, 0, none⟩) 1 1] 22 (n := B + 1 + 1 + 1 + 1) (by simp [hB])
  refine rows_one (xss := aNext) hBk rfl (by decide) fun i hi => ?_
  match i, hi with
  | 0, _ => exact ⟨_, _, rfl, (((i0.non (k _ _)).non (k _ _)).non (k _ _)).non (k _ _)⟩
  | 1, _ => exact ⟨_, _, rfl, ((i1.non (k _ _)).non (k _ _)).non (k _ _)⟩
  | 2, _ => exact ⟨_, _, rfl, (i2.non (k _ _)).non (k _ _)⟩
  | 3, _ => exact ⟨_, _, rfl, i3.non (k _ _)⟩
theorem strs_laid (w : World) : StrsIn (w.alloc (.cells #[.string ⟨#[97]⟩, .string ⟨#[98]⟩, .string ⟨#[97]⟩, .string ⟨#[99]⟩] 9)) (some ⟨w.heap.size, 0, none⟩) 4 [⟨#[97]⟩, ⟨#[98]⟩, ⟨#[97]⟩, ⟨#[99]⟩] := by
  have hB := Blk.new w [.string ⟨#[97]⟩, .string ⟨#[98]⟩, .string ⟨#[97]⟩, .string ⟨#[99]⟩] 9
  refine ⟨rfl, by omega, .inr ⟨w.heap.size, 0, rfl, hB.lt, fun i hi => ?_⟩⟩
  rw [Nat.zero_add]
  match i, hi with
  | 0, _ => exact hB.cell 0
  | 1, _ => exact hB.cell 1
  | 2, _ => exact hB.cell 2
  | 3, _ => exact hB.cell 3
theorem v_of : numb [] (([⟨#[97]⟩, ⟨#[98]⟩, ⟨#[97]⟩, ⟨#[99]⟩] : List ByteArray).map tl) = [0, 1, 0, 2] := by decide +kernel
theorem v_meet : meetL [0, 0, 1, 1] [0, 1, 1, 1] = [0, 1, 2, 2] := by decide +kernel
theorem v_join : joinL [0, 0, 1, 1] [0, 1, 1, 1] = [0, 0, 0, 0] := by decide +kernel
theorem v_ref : refineL [0, 0, 0, 1] aNext = [0, 0, 1, 2] := by decide +kernel
theorem v_co1 : coarseL [0, 0, 0, 1] aNext = ([0, 1, 2, 3], 2) := by decide +kernel
theorem v_co2 : coarseL [0, 0, 0, 0] aNext = ([0, 0, 0, 0], 0) := by decide +kernel
theorem v_st : refineL [0, 0, 0, 0] aNext = [0, 0, 0, 0] := by decide +kernel
theorem v_qu : quotL [0, 0, 0, 0] aNext = [[0]] := by decide +kernel
theorem e_both : bothE [0, 0, 1, 1] [0, 1, 1, 1] = 0 := by decide +kernel
theorem e_w1 : wrongE [0, 0, 0, 1] aNext = 0 := by decide +kernel
theorem e_w2 : wrongE [0, 0, 0, 0] aNext = 0 := by decide +kernel
theorem make4 (w : World) : (Instr.makeSlice 22 (.int .i64 4) (.int .i64 4)).run Try.prog w = .ok (.slice (some ⟨w.heap.size, 0, none⟩) 4 4) (w.alloc (.cells #[.int .i64 0, .int .i64 0, .int .i64 0, .int .i64 0] 3)) := make22 w 4 (by omega)
set_option maxRecDepth 100000 in
set_option maxHeartbeats 8000000 in
theorem awake_l (w : World) : Calls Try.prog 14 #[] w fun e w' => e = .returned (.bool true) ∧ Keeps Non w w' := by
  have H1 : Hid (∀ u : World, Calls Try.prog 18 #[.slice (some ⟨u.heap.size, 0, none⟩) 4 4] (u.alloc (.cells #[.string ⟨#[97]⟩, .string ⟨#[98]⟩, .string ⟨#[97]⟩, .string ⟨#[99]⟩] 9)) fun e w' => ∃ b, e = .returned (.tuple #[.slice (some ⟨b, 0, none⟩) 4 4, .int .i64 0]) ∧ Ints w' (some ⟨b, 0, none⟩) 4 [0, 1, 0, 2] ∧ Keeps Non u w') := fun u => (ofStr_l _ 4 4 _ _ (strs_laid u) (by omega) (fun x hx => by
      simp only [List.mem_cons, List.not_mem_nil, or_false] at hx
      rcases hx with rfl | rfl | rfl | rfl <;> decide)).mono fun e w' ⟨b, h1, h2, h3, h4⟩ => ⟨b, h1, by
        rw [v_of] at h3
        exact ints_of_blk h3 (by decide), ((Keeps.refl Non u).alloc _).then h4⟩
  have hP : ∀ u : World, Ints ((u.alloc (.cells #[.int .i64 0, .int .i64 0, .int .i64 1, .int .i64 1] 3)).alloc (.cells #[.int .i64 0, .int .i64 1, .int .i64 1, .int .i64 1] 3)) (some ⟨u.heap.size, 0, none⟩) 4 [0, 0, 1, 1] := fun u => (ints_laid u [0, 0, 1, 1] rfl (by decide)).non ((Keeps.refl Non _).alloc _)
  have hQ : ∀ u : World, Ints ((u.alloc (.cells #[.int .i64 0, .int .i64 0, .int .i64 1, .int .i64 1] 3)).alloc (.cells #[.int .i64 0, .int .i64 1, .int .i64 1, .int .i64 1] 3)) (some ⟨u.heap.size + 1, 0, none⟩) 4 [0, 1, 1, 1] := fun u => ints_laid (u.alloc (.cells #[.int .i64 0, .int .i64 0, .int .i64 1, .int .i64 1] 3)) [0, 1, 1, 1] (by simp) (by decide)
  have kk : ∀ (u : World) (o o' : Obj), Keeps Non u ((u.alloc o).alloc o') := fun u o o' => ((Keeps.refl Non u).alloc o).alloc o'
  have g1 : Good [0, 0, 1, 1] := good_small (by decide)
  have g2 : Good [0, 1, 1, 1] := good_small (by decide)
  have g3 : Good [0, 0, 0, 1] := good_small (by decide)
  have g4 : Good [0, 0, 0, 0] := good_small (by decide)
  have H2 : Hid (∀ u : World, Calls Try.prog 30 #[.slice (some ⟨u.heap.size, 0, none⟩) 4 4, .slice (some ⟨u.heap.size + 1, 0, none⟩) 4 4] ((u.alloc (.cells #[.int .i64 0, .int .i64 0, .int .i64 1, .int .i64 1] 3)).alloc (.cells #[.int .i64 0, .int .i64 1, .int .i64 1, .int .i64 1] 3)) fun e w' => ∃ b, e = .returned (.tuple #[.slice (some ⟨b, 0, none⟩) 4 4, .int .i64 0]) ∧ Ints w' (some ⟨b, 0, none⟩) 4 [0, 1, 2, 2] ∧ Keeps Non u w') := fun u => (meet_yes _ _ 4 4 4 4 _ _ _ (hP u) (hQ u) g1 g2 e_both).mono fun e w' ⟨v, h1, hv⟩ => by
      rw [v_meet] at hv
      obtain ⟨b, rfl, _, h3, h4⟩ := hv
      exact ⟨b, h1, ints_of_blk h3 (by decide), (kk u _ _).then h4⟩
  have H3 : Hid (∀ u : World, Calls Try.prog 31 #[.slice (some ⟨u.heap.size, 0, none⟩) 4 4, .slice (some ⟨u.heap.size + 1, 0, none⟩) 4 4] ((u.alloc (.cells #[.int .i64 0, .int .i64 0, .int .i64 1, .int .i64 1] 3)).alloc (.cells #[.int .i64 0, .int .i64 1, .int .i64 1, .int .i64 1] 3)) fun e w' => ∃ b, e = .returned (.tuple #[.slice (some ⟨b, 0, none⟩) 4 4, .int .i64 0]) ∧ Ints w' (some ⟨b, 0, none⟩) 4 [0, 0, 0, 0] ∧ Keeps Non u w') := fun u => (join_yes _ _ 4 4 4 4 _ _ _ (hP u) (hQ u) g1 g2 e_both).mono fun e w' ⟨v, h1, hv⟩ => by
      rw [v_join] at hv
      obtain ⟨b, rfl, _, h3, h4⟩ := hv
      exact ⟨b, h1, ints_of_blk h3 (by decide), (kk u _ _).then h4⟩
  have H5 : Hid (∀ (u : World) (B : Nat), Rows u (some ⟨B, 0, none⟩) 4 aNext → Calls Try.prog 35 #[.slice (some ⟨u.heap.size, 0, none⟩) 4 4, .slice (some ⟨B, 0, none⟩) 4 4] (u.alloc (.cells #[.int .i64 0, .int .i64 0, .int .i64 0, .int .i64 1] 3)) fun e w' => ∃ b, e = .returned (.tuple #[.slice (some ⟨b, 0, none⟩) 4 4, .int .i64 0]) ∧ Ints w' (some ⟨b, 0, none⟩) 4 [0, 0, 1, 2] ∧ Keeps Non u w') := fun u B hR => (refine_yes _ _ 4 4 4 4 _ _ _ (ints_laid u [0, 0, 0, 1] rfl (by decide)) (hR.non ((Keeps.refl Non u).alloc _)) g3 e_w1).mono fun e w' ⟨v, h1, hv⟩ => by
      rw [v_ref] at hv
      obtain ⟨b, rfl, _, h3, h4⟩ := hv
      exact ⟨b, h1, ints_of_blk h3 (by decide), ((Keeps.refl Non u).alloc _).then h4⟩
  have H6 : Hid (∀ (u : World) (B : Nat), Rows u (some ⟨B, 0, none⟩) 4 aNext → Calls Try.prog 27 #[.slice (some ⟨u.heap.size, 0, none⟩) 4 4, .slice (some ⟨B, 0, none⟩) 4 4] (u.alloc (.cells #[.int .i64 0, .int .i64 0, .int .i64 0, .int .i64 1] 3)) fun e w' => ∃ a c, e = .returned (.tuple #[.slice a 4 c, .int .i64 2, .int .i64 0]) ∧ Ints w' a 4 [0, 1, 2, 3] ∧ Keeps Non u w') := fun u B hR => (coarsest_yes _ _ 4 4 4 4 _ _ _ (ints_laid u [0, 0, 0, 1] rfl (by decide)) (hR.non ((Keeps.refl Non u).alloc _)) g3 e_w1).mono fun e w' ⟨v, h1, hv⟩ => by
      rw [v_co1] at h1 hv
      obtain ⟨a, c, rfl, h3, h4⟩ := hv
      exact ⟨a, c, h1, h3, ((Keeps.refl Non u).alloc _).then h4⟩
  have H7 : Hid (∀ (u : World) (B : Nat), Rows u (some ⟨B, 0, none⟩) 4 aNext → Calls Try.prog 27 #[.slice (some ⟨u.heap.size, 0, none⟩) 4 4, .slice (some ⟨B, 0, none⟩) 4 4] (u.alloc (.cells #[.int .i64 0, .int .i64 0, .int .i64 0, .int .i64 0] 3)) fun e w' => ∃ a c, e = .returned (.tuple #[.slice a 4 c, .int .i64 0, .int .i64 0]) ∧ Ints w' a 4 [0, 0, 0, 0] ∧ Keeps Non u w') := fun u B hR => (coarsest_yes _ _ 4 4 4 4 _ _ _ (ints_laid u [0, 0, 0, 0] rfl (by decide)) (hR.non ((Keeps.refl Non u).alloc _)) g4 e_w2).mono fun e w' ⟨v, h1, hv⟩ => by
      rw [v_co2] at h1 hv
      obtain ⟨a, c, rfl, h3, h4⟩ := hv
      exact ⟨a, c, h1, h3, ((Keeps.refl Non u).alloc _).then h4⟩
  have H8 : Hid (∀ (u : World) (B : Nat), Rows u (some ⟨B, 0, none⟩) 4 aNext → Calls Try.prog 28 #[.slice (some ⟨u.heap.size, 0, none⟩) 4 4, .slice (some ⟨B, 0, none⟩) 4 4] (u.alloc (.cells #[.int .i64 0, .int .i64 0, .int .i64 0, .int .i64 0] 3)) fun e w' => ∃ b, e = .returned (.tuple #[.slice (some ⟨b, 0, none⟩) 1 1, .int .i64 0]) ∧ Rows w' (some ⟨b, 0, none⟩) 1 [[0]] ∧ Keeps Non u w') := fun u B hR => (quotient_yes _ _ 4 4 4 4 _ _ _ (ints_laid u [0, 0, 0, 0] rfl (by decide)) (hR.non ((Keeps.refl Non u).alloc _)) g4 e_w2 v_st).mono fun e w' ⟨v, h1, hv⟩ => by
      rw [v_qu] at hv
      obtain ⟨b, S, rfl, h2, h3, h4⟩ := hv
      exact ⟨b, h1, h3.rows (by decide) (fun i => by
        match i with
        | 0 => decide
        | i + 1 => simp), ((Keeps.refl Non u).alloc _).then h4⟩
  have HE : Hid (∀ (u : World) (a : Option Addr) (c : Nat) (xs : List Int), xs.length = 4 → Ints u a 4 xs → Calls Try.prog 19 #[.slice a 4 c, .slice (some ⟨u.heap.size, 0, none⟩) 4 4] (u.alloc (.cells (xs.map (Value.int .i64)).toArray 3)) fun e w' => e = .returned (.bool true) ∧ Keeps Non u w') := fun u a c xs hl hI => by
    have h2 := ints_laid u xs rfl (by omega)
    rw [hl] at h2
    refine (equal_any a 4 c xs _ 4 4 xs _ (hI.non ((Keeps.refl Non u).alloc _)) h2).mono fun e w' ⟨h1, h4⟩ => ⟨by rw [h1, decide_eq_true rfl], ((Keeps.refl Non u).alloc _).then h4⟩
  have HL : Hid (∀ (u : World) (b : Nat), Rows u (some ⟨b, 0, none⟩) 1 [[0]] → Calls Try.prog 40 #[.slice (some ⟨b, 0, none⟩) 1 1, .slice (some ⟨u.heap.size + 1, 0, none⟩) 1 1] ((u.alloc (.cells #[.int .i64 0] 3)).alloc (.cells #[.slice (some ⟨u.heap.size, 0, none⟩) 1 1] 22)) fun e w' => e = .returned (.bool true) ∧ Keeps Non u w') := fun u b hR => by
    have hI := (ints_laid u [0] rfl (by decide)).non ((Keeps.refl Non (u.alloc (.cells #[.int .i64 0] 3))).alloc (.cells #[.slice (some ⟨u.heap.size, 0, none⟩) 1 1] 22))
    have hB := Blk.newAt (u.alloc (.cells #[.int .i64 0] 3)) [.slice (some ⟨u.heap.size, 0, none⟩) 1 1] 22 (n := u.heap.size + 1) (by simp)
    have hR2 := rows_one (xss := [[0]]) hB rfl (by decide) fun i hi => by
      match i, hi with
      | 0, _ => exact ⟨_, _, rfl, hI⟩
    exact (lists_l _ 1 1 _ _ 1 1 _ _ (hR.non (kk u _ _)) hR2).mono fun e w' ⟨h1, h4⟩ => ⟨by rw [h1, decide_eq_true rfl], (kk u _ _).then h4⟩
  clear hP hQ kk g1 g2 g3 g4
  go_enter Try.func14, Try.ntmps14
  go_wp2_with fail
  refine (H1.out w).mono ?_
  rintro e w1 ⟨b1, rfl, hI1, hk1⟩
  have HI1 := hide hI1
  have HK1 := hide hk1
  clear hI1 hk1 H1
  go_wp2_with fail
  refine (H2.out w1).mono ?_
  rintro e w2 ⟨b2, rfl, hI2, hk2⟩
  have HI2 := hide hI2
  have HK2 := hide hk2
  clear hI2 hk2 H2
  go_wp2_with fail
  refine (H3.out w2).mono ?_
  rintro e w3 ⟨b3, rfl, hI3, hk3⟩
  have HI3 := hide hI3
  have HK3 := hide hk3
  clear hI3 hk3 H3
  obtain ⟨B, hB⟩ : ∃ B, w3.heap.size = B := ⟨_, rfl⟩
  have HR := hide (next_laid w3 B hB)
  have HKn : Hid (Keeps Non w3 (((((w3.alloc (.cells #[.int .i64 1] 3)).alloc (.cells #[.int .i64 2] 3)).alloc (.cells #[.int .i64 3] 3)).alloc (.cells #[.int .i64 3] 3)).alloc (.cells #[.slice (some ⟨B, 0, none⟩) 1 1, .slice (some ⟨B + 1, 0, none⟩) 1 1, .slice (some ⟨B + 1 + 1, 0, none⟩) 1 1, .slice (some ⟨B + 1 + 1 + 1, 0, none⟩) 1 1] 22))) := (((((Keeps.refl Non w3).alloc _).alloc _).alloc _).alloc _).alloc _
  obtain ⟨W, hW⟩ : ∃ W, ((((w3.alloc (.cells #[.int .i64 1] 3)).alloc (.cells #[.int .i64 2] 3)).alloc (.cells #[.int .i64 3] 3)).alloc (.cells #[.int .i64 3] 3)).alloc (.cells #[.slice (some ⟨B, 0, none⟩) 1 1, .slice (some ⟨B + 1, 0, none⟩) 1 1, .slice (some ⟨B + 1 + 1, 0, none⟩) 1 1, .slice (some ⟨B + 1 + 1 + 1, 0, none⟩) 1 1] 22) = W := ⟨_, rfl⟩
  rw [hW] at HR HKn
  go_wp2_with fail
  clear hW
  refine (H5.out W _ HR.out).mono ?_
  rintro e w5 ⟨b5, rfl, hI5, hk5⟩
  have HI5 := hide hI5
  have HK5 := hide hk5
  have HR5 := hide (HR.out.non hk5)
  clear hI5 hk5 H5 HR
  go_wp2_with fail
  refine (H6.out w5 _ HR5.out).mono ?_
  rintro e w6 ⟨a6, c6, rfl, hI6, hk6⟩
  have HI6 := hide hI6
  have HK6 := hide hk6
  have HR6 := hide (HR5.out.non hk6)
  clear hI6 hk6 H6 HR5
  go_wp2_with fail
  refine (H7.out w6 _ HR6.out).mono ?_
  rintro e w7 ⟨a7, c7, rfl, hI7, hk7⟩
  have HI7 := hide hI7
  have HK7 := hide hk7
  have HR7 := hide (HR6.out.non hk7)
  clear hI7 hk7 H7 HR6
  go_wp2_with fail
  refine (H8.out w7 _ HR7.out).mono ?_
  rintro e w8 ⟨b8, rfl, hR8, hk8⟩
  have HR8 := hide hR8
  have k7 := HK7.out.then hk8
  have k6 := HK6.out.then k7
  have k5 := HK5.out.then k6
  have k3 := HKn.out.then k5
  have k2 := HK3.out.then k3
  have k1 := HK2.out.then k2
  have k0 := HK1.out.then k1
  have I1 := hide (HI1.out.non k1)
  have I2 := hide (HI2.out.non k2)
  have I3 := hide (HI3.out.non k3)
  have I5 := hide (HI5.out.non k6)
  have I6 := hide (HI6.out.non k7)
  have I7 := hide (HI7.out.non hk8)
  have K0 := hide k0
  clear k0 k1 k2 k3 k5 k6 k7 hk8 hR8 HI1 HI2 HI3 HI5 HI6 HI7 HK1 HK2 HK3 HK5 HK6 HK7 HKn HR7 H8 hB
  have hE := HE.out w8 _ 4 [0, 1, 0, 2] rfl I1.out
  simp only [List.map_cons, List.map_nil] at hE
  have HEx := hide hE
  clear hE
  go_wp2_with fail
  refine HEx.out.mono ?_
  rintro e w9 ⟨rfl, hk9⟩
  have HK9 := hide hk9
  clear hk9
  have hE := HE.out w9 _ 4 [0, 1, 2, 2] rfl (I2.out.non HK9.out)
  simp only [List.map_cons, List.map_nil] at hE
  have HEx := hide hE
  clear hE
  go_wp2_with fail
  refine HEx.out.mono ?_
  rintro e w10 ⟨rfl, hk10⟩
  have HK10 := hide (HK9.out.then hk10)
  clear hk10
  have hm4 := make4 w10
  have hE := HE.out w10 _ 4 [0, 0, 0, 0] rfl (I3.out.non HK10.out)
  simp only [List.map_cons, List.map_nil] at hE
  have HEx := hide hE
  clear hE
  go_wp2_with fail
  refine HEx.out.mono ?_
  rintro e w11 ⟨rfl, hk11⟩
  have HK11 := hide (HK10.out.then hk11)
  clear hk11 hm4
  have hE := HE.out w11 _ 4 [0, 0, 1, 2] rfl (I5.out.non HK11.out)
  simp only [List.map_cons, List.map_nil] at hE
  have HEx := hide hE
  clear hE
  go_wp2_with fail
  refine HEx.out.mono ?_
  rintro e w12 ⟨rfl, hk12⟩
  have HK12 := hide (HK11.out.then hk12)
  clear hk12
  have hE := HE.out w12 _ c6 [0, 1, 2, 3] rfl (I6.out.non HK12.out)
  simp only [List.map_cons, List.map_nil] at hE
  have HEx := hide hE
  clear hE
  go_wp2_with fail
  refine HEx.out.mono ?_
  rintro e w13 ⟨rfl, hk13⟩
  have HK13 := hide (HK12.out.then hk13)
  clear hk13
  have hm4 := make4 w13
  have hE := HE.out w13 _ c7 [0, 0, 0, 0] rfl (I7.out.non HK13.out)
  simp only [List.map_cons, List.map_nil] at hE
  have HEx := hide hE
  clear hE
  go_wp2_with fail
  refine HEx.out.mono ?_
  rintro e w14 ⟨rfl, hk14⟩
  have HK14 := hide (HK13.out.then hk14)
  clear hk14 hm4
  go_wp2_with fail
  refine (HL.out w14 _ (HR8.out.non HK14.out)).mono ?_
  rintro e w15 ⟨rfl, hk15⟩
  have HK15 := hide (HK14.out.then hk15)
  clear hk15
  go_wp2_with fail
  go_ret
  exact ⟨rfl, K0.out.then HK15.out⟩
end Go.Proofs.Ytkcbahfmdokalaa
