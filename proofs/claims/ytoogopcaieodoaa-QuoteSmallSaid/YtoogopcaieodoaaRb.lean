/-
  The reference's Byte. No condition.
-/
import Derived.Test.YtoogopcaieodoaaRa
namespace Go.Proofs.Ytoogopcaieodoaa
open Go.RowKit Go.Shelf
attribute [local go_sem] onto_cell onto_frozen
theorem ret_strl {a b : ByteArray} (h : a.data.toList = b.data.toList) : Ending.returned (.string a) = .returned (.string b) := by rw [str_ext h]
theorem nums_list (xs : List Int) : (strOfNums xs).data.toList = xs.map fun n => UInt8.ofNat n.toNat := rfl
set_option maxRecDepth 100000 in
theorem byteR_short (m : Mk) (d : Int) (o : ByteArray) (w : World) (h : (d = 10 ∧ o.data.toList = [92, 110]) ∨ (d = 13 ∧ o.data.toList = [92, 114]) ∨ (d = 9 ∧ o.data.toList = [92, 116])) :
    Calls Try.prog 30 #[.int .u8 d, .agg (mkA m)] w fun e w' => e = .returned (.string o) ∧ Keeps Non w w' := by
  rcases h with ⟨rfl, h⟩ | ⟨rfl, h⟩ | ⟨rfl, h⟩
  all_goals
    have H := hide h
    clear h
    go_enter Try.func30, Try.ntmps30
    go_wp2_with fail
    go_ret
    exact ⟨ret_strl (by rw [H.out]), (Keeps.refl _ _).alloc _⟩
set_option maxRecDepth 100000 in
set_option maxHeartbeats 4000000 in
theorem byteR_hex (m : Mk) (d p q : Int) (o : ByteArray) (w : World) (h0 : 0 ≤ d) (h1 : d ≤ 255) (e10 : (d == 10) = false) (e13 : (d == 13) = false) (e9 : (d == 9) = false) (d1 d2 : Bool) (hd1 : decide (d < 32) = d1) (hd2 : decide (126 < d) = d2) (hd : (d1 || d2) = true)
    (hp : ((hx (d / 16).toNat).toNat : Int) = p) (hq : ((hx (d % 16).toNat).toNat : Int) = q) (ho : o.data.toList = [92, 120, UInt8.ofNat p.toNat, UInt8.ofNat q.toNat]) :
    Calls Try.prog 30 #[.int .u8 d, .agg (mkA m)] w fun e w' => e = .returned (.string o) ∧ Keeps Non w w' := by
  have H1 := hide (fun w => hexR_at (d / 16) false p w (by omega) (by omega) hp)
  have H2 := hide (fun w => hexR_at (d % 16) false q w (by omega) (by omega) hq)
  have HO := hide ho
  have kc := fun w => conv2s w (.cells (mkA m) 60) p q 5
  have hz : ¬ 9223372036854775807 < 2 + (strOfNums [p, q]).size := by
    rw [strOfNums_size]
    simp
  clear hp hq ho
  cases d1 <;> cases d2 <;> simp only [Bool.or_true, Bool.or_false, reduceCtorEq] at hd
  all_goals
    go_enter Try.func30, Try.ntmps30
    go_wp2_with fail
    refine (H1.out _).mono ?_
    rintro e _ ⟨rfl, rfl⟩
    go_wp2_with fail
    refine (H2.out _).mono ?_
    rintro e _ ⟨rfl, rfl⟩
    go_wp2_with fail
    go_ret
    exact ⟨ret_strl (by rw [HO.out, str_append, nums_list]; rfl), ((Keeps.refl _ _).alloc _).alloc _⟩
set_option maxRecDepth 100000 in
set_option maxHeartbeats 4000000 in
theorem byteR_rest (m : Mk) (d : Int) (b : Bool) (o : ByteArray) (w : World) (h0 : 32 ≤ d) (h1 : d ≤ 126) (hm : isMk m d = b) (s : Bool) (hs : (d == 92) = s) (ho : o.data.toList = if (b || s) = true then [92, UInt8.ofNat d.toNat] else [UInt8.ofNat d.toNat]) :
    Calls Try.prog 30 #[.int .u8 d, .agg (mkA m)] w fun e w' => e = .returned (.string o) ∧ Keeps Non w w' := by
  have H1 := hide (fun w => markR_at m d b w (by omega) (by omega) hm)
  have HO := hide ho
  have kc := fun w => conv1 w d 5
  have hz : ¬ 9223372036854775807 < 1 + (strOfNums [d]).size := by
    rw [strOfNums_size]
    simp
  have e10 : (d == 10) = false := by simp; omega
  have e13 : (d == 13) = false := by simp; omega
  have e9 : (d == 9) = false := by simp; omega
  have e1 : decide (d < 32) = false := by simp; omega
  have e2 : decide (126 < d) = false := by simp; omega
  clear hm ho
  have hk : Keeps Non w (w.alloc (.cells (mkA m) 60)) := (Keeps.refl _ _).alloc _
  have hl := ld60 (blkA_new w m rfl)
  have HK := hide hk
  clear hk
  go_enter Try.func30, Try.ntmps30
  go_wp2_with fail
  refine oper_load rfl hl ?_
  go_wp2_with fail
  refine (H1.out _).mono ?_
  rintro e w2 ⟨rfl, hk2⟩
  have HK2 := hide (HK.out.then hk2)
  clear hk2 HK
  cases b <;> cases s
  all_goals
    go_wp2_with fail
    go_ret
    exact ⟨ret_strl (by rw [HO.out]; first | rfl | (rw [str_append, nums_list]; rfl)), HK2.out.alloc _⟩
/-- BYTE OF THE REFERENCE. -/
theorem byteR_l (m : Mk) (c : UInt8) (d : Int) (o : ByteArray) (w : World) (hd : (c.toNat : Int) = d) (h : o.data.toList = formB m c) :
    Calls Try.prog 30 #[.int .u8 d, .agg (mkA m)] w fun e w' => e = .returned (.string o) ∧ Keeps Non w w' := by
  subst hd
  have hb := c.toNat_lt
  have e92 : ((c.toNat : Int) == 92) = decide (c = 92) := by
    rw [Bool.eq_iff_iff]
    simpa using u8_int c 92
  unfold formB at h
  by_cases h10 : c = 10
  · subst h10
    exact byteR_short m 10 o w (.inl ⟨rfl, h⟩)
  by_cases h13 : c = 13
  · subst h13
    exact byteR_short m 13 o w (.inr (.inl ⟨rfl, h⟩))
  by_cases h9 : c = 9
  · subst h9
    exact byteR_short m 9 o w (.inr (.inr ⟨rfl, h⟩))
  rw [if_neg h10, if_neg h13, if_neg h9] at h
  by_cases hx1 : c.toNat < 32 ∨ 126 < c.toNat
  · rw [if_pos hx1] at h
    have n10 := mt (u8_int c 10).1 h10
    have n13 := mt (u8_int c 13).1 h13
    have n9 := mt (u8_int c 9).1 h9
    refine byteR_hex m _ _ _ o w (by omega) (by omega) (by simpa using n10) (by simpa using n13) (by simpa using n9) _ _ rfl rfl (by simp; omega) rfl rfl ?_
    rw [h, show ((c.toNat : Int) / 16).toNat = c.toNat / 16 by omega, show ((c.toNat : Int) % 16).toNat = c.toNat % 16 by omega, u8_back, u8_back]
  · rw [if_neg hx1] at h
    refine byteR_rest m _ _ o w (by omega) (by omega) rfl _ e92 ?_
    rw [h, u8_back]
    by_cases hc : c = 92
    · simp [hc]
    · simp [hc]
theorem lc60 {w : World} {b : Nat} {m : Mk} (h : Blk w b (mkL m) 60) : (loadCellsFrom ⟨b, 0, none⟩ 0 256 #[]).run Try.prog w = .ok (mkA m) w := by
  have := run_loadCells_list (P := Try.prog) w ⟨b, 0, none⟩ (mkL m) (fun j v hv => by
    have hadd : (⟨b, 0, none⟩ : Addr).add j = ⟨b, j, none⟩ := by unfold Addr.add; split <;> simp_all
    rw [hadd, h.cell]
    exact hv)
  simpa [loadCells, mkL_length, mkA] using this
end Go.Proofs.Ytoogopcaieodoaa
