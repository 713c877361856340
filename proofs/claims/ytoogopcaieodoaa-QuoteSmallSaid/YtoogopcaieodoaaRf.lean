/-
  The reference's may. No condition.
-/
import Derived.Test.YtoogopcaieodoaaRe
import Derived.Lib.ConvBytes
namespace Go.Proofs.Ytoogopcaieodoaa
open Go.RowKit Go.Shelf
attribute [local go_sem] onto_cell onto_frozen
attribute [-go_sem] loadCellsFrom
set_option linter.unusedVariables false
/-- The bytes that a string may begin with a form of. -/
def mayE : List UInt8 → List Int
  | [] => []
  | [d] => [(d.toNat : Int)]
  | [d, _] => [(d.toNat : Int)]
  | d :: x :: y :: _ => [(d.toNat : Int), 16 * dg (x.toNat : Int) + dg (y.toNat : Int)]
def mayOf : List UInt8 → List Int
  | [] => []
  | c :: r => if (c.toNat : Int) = 92 then [9, 10, 13] ++ mayE r else [(c.toNat : Int)]
theorem dg_bd (c : Int) : 0 ≤ dg c ∧ dg c < 16 := by
  have := nib_nonneg c
  unfold dg
  split <;> omega
theorem byts_of_owns {w : World} {B n : Nat} {v : Value} {L : List Int} (h : w.ownsRow B 5 1 v n (L.map (Value.int .u8))) (hb : n ≤ 1000000) (hL : ∀ x ∈ L, 0 ≤ x ∧ x ≤ 255) : ∃ a cap, v = .slice a n cap ∧ Byts w a n L := by
  obtain ⟨hl, h2⟩ := h
  rw [List.length_map, Nat.mul_one] at hl
  have hbd : ∀ i, 0 ≤ L.getD i 0 ∧ L.getD i 0 ≤ 255 := by
    intro i
    rw [List.getD_eq_getElem?_getD]
    cases e : L[i]? with
    | none => simp
    | some x => exact hL x (List.mem_of_getElem? e)
  rcases h2 with ⟨rfl, rfl⟩ | ⟨g, cap, cur, rfl, hg, hh, hnc, hcm, hsz, htk⟩
  · exact ⟨none, 0, rfl, hl, by omega, .inl rfl, hbd⟩
  · refine ⟨some ⟨g, 0, none⟩, cap, rfl, hl, by omega, ?_, hbd⟩
    rcases Nat.eq_zero_or_pos n with h0 | h0
    · exact .inl h0
    · refine .inr ⟨g, 0, rfl, (Array.getElem?_eq_some_iff.1 hh).1, fun i hi => ?_⟩
      have e1 : w.cell? ⟨g, 0 + i, none⟩ = cur[0 + i]? := by simp [World.cell?, hh]
      have e2 : cur[i]? = (L.map (Value.int .u8))[i]? := by
        rw [← htk, List.getElem?_take, if_pos (by omega)]
        simp
      rw [e1, Nat.zero_add, e2, List.getElem?_map, List.getD_eq_getElem?_getD, List.getElem?_eq_getElem (by omega)]
      rfl
theorem owns_new3 (w : World) (n : Nat) (hn : n ≤ w.heap.size) : (w.alloc (.cells #[.int .u8 9, .int .u8 10, .int .u8 13] 5)).ownsRow n 5 1 (.slice (some ⟨w.heap.size, 0, none⟩) 3 3) 3 [.int .u8 9, .int .u8 10, .int .u8 13] :=
  ⟨rfl, .inr ⟨w.heap.size, 3, #[.int .u8 9, .int .u8 10, .int .u8 13], rfl, hn, Blk.new w [.int .u8 9, .int .u8 10, .int .u8 13] 5, Nat.le_refl _, by decide, rfl, rfl⟩⟩
theorem keeps_bytesWorld (w : World) (s : ByteArray) : Keeps Non w (Lib.bytesWorld w 5 s) := ⟨rfl, rfl, rfl, by rw [Lib.bytesWorld_size]; omega, fun k hk _ => Lib.bytesWorld_at_old w 5 s k hk⟩
theorem byts_bytesWorld (w : World) (s : ByteArray) (hs : s.size ≤ 1000) : Byts (Lib.bytesWorld w 5 s) (some ⟨w.heap.size, 0, none⟩) s.size (s.data.toList.map fun c => (c.toNat : Int)) := by
  refine ⟨by rw [List.length_map]; rfl, by omega, ?_, fun i => ?_⟩
  · rcases Nat.eq_zero_or_pos s.size with h0 | h0
    · exact .inl h0
    · refine .inr ⟨w.heap.size, 0, rfl, by rw [Lib.bytesWorld_size]; omega, fun i hi => ?_⟩
      rw [Nat.zero_add, Lib.bytesWorld_cell w 5 s i hi]
      have hi' : i < s.data.toList.length := hi
      rw [List.getD_eq_getElem?_getD, List.getD_eq_getElem?_getD, List.getElem?_map, List.getElem?_eq_getElem hi']
      rfl
  · rw [List.getD_eq_getElem?_getD, List.getElem?_map]
    cases s.data.toList[i]? with
    | none => simp
    | some x => exact u8_bd x
set_option maxHeartbeats 4000000 in
theorem may_other (s : ByteArray) (w : World) (h : s.size = 0 ∨ ∃ h0 : 0 < s.size, ((s[0].toNat : Int) != 92) = true) :
    Calls Try.prog 43 #[.string s] w fun e w' => ∃ a cap, e = .returned (.slice a (mayOf s.data.toList).length cap) ∧ Byts w' a (mayOf s.data.toList).length (mayOf s.data.toList) ∧ Keeps Non w w' := by
  obtain ⟨t, ht⟩ : ∃ t, s.extract 0 (min (s.size : Int) 1).toNat = t := ⟨_, rfl⟩
  have hm : mayOf s.data.toList = t.data.toList.map fun c => (c.toNat : Int) := by
    rw [← ht, Lib.extract_data, List.drop_zero]
    rcases h with h | ⟨h0, h1⟩
    · have : s.data.toList = [] := List.eq_nil_of_length_eq_zero h
      rw [this]
      simp [mayOf]
    · obtain ⟨c, r, hcr⟩ : ∃ c r, s.data.toList = c :: r := by
        cases e : s.data.toList with
        | nil =>
          have : s.data.toList.length = s.size := rfl
          rw [e] at this
          simp at this
          omega
        | cons c r => exact ⟨c, r, rfl⟩
      have hc : (c.toNat : Int) ≠ 92 := by
        have := getElem_of (c := c) hcr h0 rfl
        rw [this] at h1
        simpa using h1
      rw [hcr, show (min (s.size : Int) 1).toNat - 0 = 1 by omega]
      simp only [mayOf, if_neg hc]
      rfl
  have hl : t.size ≤ 1 := by
    rw [← ht]
    exact Nat.le_trans (cut_size _ _) (by omega)
  have HM := hide hm
  have y2 : min (s.size : Int) 1 ≤ (s.size : Int) := by omega
  have kc : ∀ w, (convert 9 33 (.string t)).run Try.prog w = .ok (.slice (some ⟨w.heap.size, 0, none⟩) t.size (grownCap w t.size 0 5)) (Lib.bytesWorld w 5 t) := fun w => Lib.run_convert_string_bytes w 9 33 5 t Try.underlying9 Try.underlying33 Try.underlying5
  clear hm
  have y3 : (0 : Int) ≤ min (s.size : Int) 1 := by omega
  have fin : ∃ a cap, Ending.returned (.slice (some ⟨w.heap.size, 0, none⟩) t.size (grownCap w t.size 0 5)) = .returned (.slice a (mayOf s.data.toList).length cap) ∧ Byts (Lib.bytesWorld w 5 t) a (mayOf s.data.toList).length (mayOf s.data.toList) ∧ Keeps Non w (Lib.bytesWorld w 5 t) := by
    rw [HM.out, List.length_map]
    exact ⟨_, _, rfl, byts_bytesWorld w t (Nat.le_trans hl (by decide)), keeps_bytesWorld w t⟩
  have FIN := hide fin
  clear fin
  rcases h with h | ⟨h0, h1⟩
  · have e1 : ((s.size : Int) == 0) = true := by simp [h]
    clear h
    go_enter Try.func43, Try.ntmps43
    go_wp2_with fail
    go_ret
    exact FIN.out
  · have e1 : ((s.size : Int) == 0) = false := by rw [beq_eq_false_iff_ne]; omega
    have y1 : (0 : Int) < (s.size : Int) := by omega
    go_enter Try.func43, Try.ntmps43
    go_wp2_with fail
    go_ret
    exact FIN.out
theorem wrp8 (n : Int) : IntKind.u8.wrap n = n % 256 := by simp [IntKind.wrap, IntKind.bits, IntKind.signed]
theorem wrp64 (n : Int) (h0 : 0 ≤ n) (h1 : n < 1000000) : IntKind.i64.wrap n = n := by
  simp [IntKind.wrap, IntKind.bits, IntKind.signed]
  omega
/-- What a row of bytes hands back. -/
def RetB (w w' : World) (e : Ending) (L : List Int) : Prop := ∃ a cap, e = .returned (.slice a L.length cap) ∧ Byts w' a L.length L ∧ Keeps Non w w'
theorem retB_of {w w' : World} {B : Nat} {v : Value} {L : List Int} (h : w'.ownsRow B 5 1 v L.length (L.map (Value.int .u8))) (hb : L.length ≤ 1000000) (hL : ∀ x ∈ L, 0 ≤ x ∧ x ≤ 255) (hk : Keeps Non w w') : RetB w w' (.returned v) L := by
  obtain ⟨a, cap, rfl, hB⟩ := byts_of_owns h hb hL
  exact ⟨a, cap, rfl, hB, hk⟩
set_option maxHeartbeats 4000000 in
theorem may_one (s : ByteArray) (w : World) (h0 : 0 < s.size) (hc : (s[0].toNat : Int) = 92) (e2 : ¬ 1 < (s.size : Int)) :
    Calls Try.prog 43 #[.string s] w fun e w' => RetB w w' e [9, 10, 13] := by
  have e1 : ((s.size : Int) == 0) = false := by rw [beq_eq_false_iff_ne]; omega
  have y1 : (0 : Int) < (s.size : Int) := by omega
  have e3 : ¬ 3 < (s.size : Int) := by omega
  have HF := hide (retB_of (L := [9, 10, 13]) (owns_new3 w w.heap.size (Nat.le_refl _)) (by decide) (by simp) ((Keeps.refl Non w).alloc _))
  go_enter Try.func43, Try.ntmps43
  go_wp2_with fail
  go_ret
  exact HF.out
set_option maxHeartbeats 4000000 in
theorem may_two (s : ByteArray) (d : Int) (w : World) (h0 : 0 < s.size) (hc : (s[0].toNat : Int) = 92) (h1 : 1 < s.size) (e2 : 1 < (s.size : Int)) (hd : (s[1].toNat : Int) = d) (e3 : ¬ 3 < (s.size : Int)) (d0 : 0 ≤ d ∧ d ≤ 255) :
    Calls Try.prog 43 #[.string s] w fun e w' => RetB w w' e [9, 10, 13, d] := by
  obtain ⟨i0, hi, hz0, hz1, hz2⟩ := info_parts Try.Builder_Extra_169.infoByte
  have e1 : ((s.size : Int) == 0) = false := by rw [beq_eq_false_iff_ne]; omega
  have y1 : (0 : Int) < (s.size : Int) := by omega
  have HO := hide (owns_new3 w w.heap.size (Nat.le_refl _))
  have HK := hide ((Keeps.refl Non w).alloc (.cells #[.int .u8 9, .int .u8 10, .int .u8 13] 5))
  go_enter Try.func43, Try.ntmps43
  obtain ⟨W, hW⟩ : ∃ W, w.alloc (.cells #[.int .u8 9, .int .u8 10, .int .u8 13] 5) = W := ⟨_, rfl⟩
  rw [hW] at HO HK
  have HW := hide hW
  have HsW : Hid (W.heap.size = w.heap.size + 1) := by
    show _ = _
    rw [← hW]
    simp
  clear hW
  go_wp2_with (at_builtin; rw [HW.out]; refine wpList_append_lies _ rfl _ _ 33 rfl w.heap.size 5 i0 (.int .u8 0) 1 1 Try.underlying33 hi hz0 hz1 hz2 rfl (by decide) _ 3 _ rfl (HO.out.alloc _) ⟨w.heap.size + 1, 0, none⟩ 1 1 [.int .u8 d] rfl rfl (World.news_of_block (Blk.newAt W [.int .u8 d] 5 HsW.out.symm)) (by intro u hu; simp at hu; subst hu; rfl) (by decide) (by unfold maxLen; omega) (by omega) (by simp; have := HsW.out; omega) _ rfl ?_; intro g cap w5 hown hgrow hat hlt)
  go_ret
  refine retB_of (L := [9, 10, 13, d]) hown (by simp) (fun x hx => ?_) (keeps_grown (HK.out.alloc _) hgrow (fun k hk => .inr (by cases hk; exact Nat.le_refl _)))
  simp only [List.mem_cons, List.not_mem_nil, or_false] at hx
  omega
set_option maxHeartbeats 4000000 in
theorem may_four (s : ByteArray) (d x y p q : Int) (w : World) (h0 : 0 < s.size) (hc : (s[0].toNat : Int) = 92) (h1 : 1 < s.size) (e2 : 1 < (s.size : Int)) (hd : (s[1].toNat : Int) = d) (e3 : 3 < (s.size : Int)) (h2 : 2 < s.size) (h3 : 3 < s.size) (hx : (s[2].toNat : Int) = x) (hy : (s[3].toNat : Int) = y)
    (d0 : 0 ≤ d) (d1 : d ≤ 255) (x0 : 0 ≤ x) (x1 : x ≤ 255) (v0 : 0 ≤ y) (v1 : y ≤ 255) (hp : dg x = p) (hq : dg y = q) :
    Calls Try.prog 43 #[.string s] w fun e w' => RetB w w' e [9, 10, 13, d, 16 * p + q] := by
  have D1 := hide (fun w => digit_l x p w x0 x1 hp)
  have D2 := hide (fun w => digit_l y q w v0 v1 hq)
  obtain ⟨p0, p1⟩ := dg_bd x
  obtain ⟨q0, q1⟩ := dg_bd y
  rw [hp] at p0 p1
  rw [hq] at q0 q1
  have e5 : (2 : Int) < (s.size : Int) := by omega
  clear hp hq
  obtain ⟨i0, hi, hz0, hz1, hz2⟩ := info_parts Try.Builder_Extra_169.infoByte
  have e1 : ((s.size : Int) == 0) = false := by rw [beq_eq_false_iff_ne]; omega
  have y1 : (0 : Int) < (s.size : Int) := by omega
  have HO := hide (owns_new3 w w.heap.size (Nat.le_refl _))
  have HK := hide ((Keeps.refl Non w).alloc (.cells #[.int .u8 9, .int .u8 10, .int .u8 13] 5))
  go_enter Try.func43, Try.ntmps43
  obtain ⟨W, hW⟩ : ∃ W, w.alloc (.cells #[.int .u8 9, .int .u8 10, .int .u8 13] 5) = W := ⟨_, rfl⟩
  rw [hW] at HO HK
  have HW := hide hW
  have HsW : Hid (W.heap.size = w.heap.size + 1) := by
    show _ = _
    rw [← hW]
    simp
  clear hW
  go_wp2_with (at_builtin; rw [HW.out]; refine wpList_append_lies _ rfl _ _ 33 rfl w.heap.size 5 i0 (.int .u8 0) 1 1 Try.underlying33 hi hz0 hz1 hz2 rfl (by decide) _ 3 _ rfl (HO.out.alloc _) ⟨w.heap.size + 1, 0, none⟩ 1 1 [.int .u8 d] rfl rfl (World.news_of_block (Blk.newAt W [.int .u8 d] 5 HsW.out.symm)) (by intro u hu; simp at hu; subst hu; rfl) (by decide) (by unfold maxLen; omega) (by omega) (by simp; have := HsW.out; omega) _ rfl ?_; intro g cap w5 hown hgrow hat hlt)
  have HO2 := hide hown
  have HK2 : Hid (Keeps Non w w5) := keeps_grown (HK.out.alloc _) hgrow (fun k hk => .inr (by cases hk; exact Nat.le_refl _))
  have HL5 : Hid (w.heap.size ≤ w5.heap.size) := HK2.out.size
  clear hown hgrow hat hlt
  have t6 : IntKind.u8.wrap (16 * p + q) = 16 * p + q := by rw [wrp8]; omega
  have t7 : IntKind.i64.wrap (16 * p) = 16 * p := wrp64 _ (by omega) (by omega)
  have t8 : IntKind.i64.wrap (16 * p + q) = 16 * p + q := wrp64 _ (by omega) (by omega)
  go_wp2_with fail
  go_region_law (first | (go_simp; go_at_call 52; (first | (with_reducible refine (D1.out _).mono ?_) | (with_reducible refine (D2.out _).mono ?_)); rintro e _ ⟨rfl, rfl⟩) | (refine step_append_lies _ rfl _ _ 33 rfl w.heap.size 5 i0 (.int .u8 0) 1 1 Try.underlying33 hi hz0 hz1 hz2 rfl (by decide) _ 4 _ (by rfl) (HO2.out.drew.alloc _) ⟨w5.heap.size, 0, none⟩ 1 1 [.int .u8 (16 * p + q)] (by rfl) rfl (World.news_of_block (Blk.newAt w5.drew [.int .u8 (16 * p + q)] 5 rfl)) (by intro u hu; simp at hu; subst hu; rfl) (by decide) (by unfold maxLen; omega) (by omega) (by simp; have := HL5.out; omega) _ rfl ?_; intro g2 cap2 w6 hown2 hgrow2 hat2 hlt2))
  all_goals
    go_wp2_with fail
    go_ret
    refine retB_of (L := [9, 10, 13, d, 16 * p + q]) hown2 (by simp) (fun x hx => ?_) (keeps_grown ((HK2.out.drew).alloc _) hgrow2 (fun k hk => .inr (own_ge HO2.out k hk)))
    simp only [List.mem_cons, List.not_mem_nil, or_false] at hx
    omega
/-- MAY. -/
theorem may_l (s : ByteArray) (w : World) : Calls Try.prog 43 #[.string s] w fun e w' => RetB w w' e (mayOf s.data.toList) := by
  rcases Nat.eq_zero_or_pos s.size with h0 | h0
  · exact may_other s w (.inl h0)
  by_cases hc : (s[0].toNat : Int) = 92
  · obtain ⟨c, r, hcr⟩ : ∃ c r, s.data.toList = c :: r := by
      cases e : s.data.toList with
      | nil =>
        have : s.data.toList.length = s.size := rfl
        rw [e] at this
        simp at this
        omega
      | cons c r => exact ⟨c, r, rfl⟩
    have hc2 : (c.toNat : Int) = 92 := by rw [← hc]; exact (getElem_of (c := c) hcr h0 rfl).symm
    have hsz : s.size = r.length + 1 := by
      show s.data.toList.length = _
      rw [hcr]
      rfl
    have hM : mayOf s.data.toList = [9, 10, 13] ++ mayE r := by
      rw [hcr]
      simp only [mayOf, if_pos hc2]
    rw [hM]
    match r, hcr, hsz with
    | [], hcr, hsz =>
      simp only [List.length_nil] at hsz
      exact may_one s w h0 hc (by omega)
    | [d], hcr, hsz =>
      simp only [List.length_cons, List.length_nil] at hsz
      exact may_two s _ w h0 hc (by omega) (by omega) (getElem_of (c := d) hcr (by omega) rfl) (by omega) (u8_bd d)
    | [d, x], hcr, hsz =>
      simp only [List.length_cons, List.length_nil] at hsz
      exact may_two s _ w h0 hc (by omega) (by omega) (getElem_of (c := d) hcr (by omega) rfl) (by omega) (u8_bd d)
    | d :: x :: y :: r, hcr, hsz =>
      simp only [List.length_cons] at hsz
      exact may_four s _ _ _ _ _ w h0 hc (by omega) (by omega) (getElem_of (c := d) hcr (by omega) rfl) (by omega) (by omega) (by omega) (getElem_of (c := x) hcr (by omega) rfl) (getElem_of (c := y) hcr (by omega) rfl)
        (u8_bd d).1 (u8_bd d).2 (u8_bd x).1 (u8_bd x).2 (u8_bd y).1 (u8_bd y).2 rfl rfl
  · exact may_other s w (.inr ⟨h0, by simpa using hc⟩)
end Go.Proofs.Ytoogopcaieodoaa
