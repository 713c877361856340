/-
  The reference's ReadBytes. No condition.
-/
import Derived.Test.YtoogopcaieodoaaRo
namespace Go.Proofs.Ytoogopcaieodoaa
open Go.RowKit Go.Shelf
attribute [local go_sem] onto_cell onto_frozen
attribute [-go_sem] loadCellsFrom
set_option linter.unusedVariables false
set_option maxRecDepth 100000 in
set_option maxHeartbeats 40000000 in
theorem readBytesR_l (m : Mk) (s : ByteArray) (hs2 : s.size ≤ 1000000) (v : Value) (hv : unqT (rds m s.data.toList) = v) (w : World) :
    Calls Try.prog 28 #[.string s, .agg (mkA m)] w fun e w' => e = .returned v ∧ Keeps Non w w' := by
  obtain ⟨i0, hi, hz0, hz1, hz2⟩ := info_parts Try.Builder_Extra_169.infoByte
  obtain ⟨X, hX⟩ : ∃ X, rds m s.data.toList = X := ⟨_, rfl⟩
  rw [hX] at hv
  subst hv
  obtain ⟨n, hn⟩ : ∃ n, s.size = n := ⟨_, rfl⟩
  have HN := hide hn
  have HX : Hid (rdsF m (n + 1) 0 [] s.data.toList = X) := by
    show _ = _
    rw [← hX, ← hn]
    rfl
  rw [hn] at hs2
  unfold unqT
  clear hX hn
  obtain ⟨z, hz⟩ : ∃ z, w.heap.size = z := ⟨_, rfl⟩
  have HZ := hide hz
  obtain ⟨W, hW⟩ : ∃ W, w.alloc (.cells (mkA m) 60) = W := ⟨_, rfl⟩
  have HB : Hid (Blk W z (mkL m) 60) := by rw [← hW]; exact blkA_new w m hz.symm
  have HK : Hid (Keeps Non w W) := by rw [← hW]; exact (Keeps.refl _ _).alloc _
  have HW := hide hW
  clear hW hz
  go_enter Try.func28, Try.ntmps28
  go_wp2_with fail
  rw [HZ.out, HW.out]
  go_loopw [7, 8] (fun v a wr => ∃ (k f q : Nat) (out : List UInt8), k ≤ n ∧ n < k + f ∧ q ≤ k ∧ a = .int .i64 k ∧ Hid (wr.ownsRow (z + 1) 5 1 v q (Lib.byteCells out)) ∧ Hid (Keeps Non w wr) ∧ Hid (Blk wr z (mkL m) 60) ∧ Hid (rdsF m f k out (s.data.toList.drop k) = X)) (fun _ a _ => n - (intOf a).toNat)
  case atStart => exact ⟨0, n + 1, 0, [], by omega, by omega, by omega, rfl, World.ownsRow_nil _ _ _ _, HK.out, HB.out, HX.out⟩
  case round =>
    clear HX HK HB
    obtain ⟨k, f, q, out, hk, hf, hq, rfl, hO, hK, HB, hF⟩ := hrel
    by_cases hlt : k < n
    · have hlt' : k < s.size := by rw [HN.out]; exact hlt
      obtain ⟨f, rfl⟩ : ∃ g, f = g + 1 := ⟨f - 1, by omega⟩
      have hdr : s.data.toList.drop k = s[k] :: s.data.toList.drop (k + 1) := List.drop_eq_getElem_cons (l := s.data.toList) hlt'
      have HDr := hide hdr
      clear hdr
      have y0 : (0 : Int) ≤ (k : Int) := by omega
      have y1 : (k : Int) < (s.size : Int) := by omega
      have y2 : (k : Int) ≤ (s.size : Int) := by omega
      have hl : (s.extract k s.size).data.toList = s.data.toList.drop k := by
        rw [Lib.extract_data, List.take_of_length_le]
        rw [List.length_drop]
        have : s.data.toList.length = s.size := rfl
        omega
      have hlen : (s.data.toList.drop k).length = n - k := by
        rw [List.length_drop, ← HN.out]
        rfl
      have hn1 := rdB_n m (s.data.toList.drop k)
      have hn2 := rdB_byte m (s.data.toList.drop k)
      obtain ⟨⟨b, nn, e⟩, hR⟩ : ∃ x, rdB m (s.data.toList.drop k) = x := ⟨_, rfl⟩
      have HRB := hide (fun w => readByteR_l m (s.extract k s.size) (.tuple #[.int .u8 b, .int .i64 nn, .int .i64 e]) (by rw [hl, hR]; rfl) w)
      rw [hR, hlen] at hn1
      rw [hR] at hn2
      simp only [] at hn1 hn2
      obtain ⟨b0, b1⟩ := hn2
      have hF2 : Hid (if e ≠ 0 then ([], (k : Int), 20) = X else rdsF m f (k + nn.toNat) (out ++ [UInt8.ofNat b.toNat]) ((s.data.toList.drop k).drop nn.toNat) = X) := by
        have h := hF.out
        rw [HDr.out] at hR
        rw [HDr.out] at h
        simp only [rdsF] at h
        rw [hR] at h
        simp only [] at h
        rw [HDr.out]
        show ite _ _ _
        split
        · rename_i he
          rw [if_pos he] at h
          exact h
        · rename_i he
          rw [if_neg he] at h
          exact h
      have HO := hide hO.out
      have hld := lc60 HB.out.drew
      clear hF hR hl hO
      rcases hn1 with ⟨rfl, hn1, hn2⟩ | ⟨rfl, rfl, rfl⟩
      · obtain ⟨j, rfl⟩ := Int.eq_ofNat_of_zero_le (show 0 ≤ nn by omega)
        have hF3 : Hid (rdsF m f (k + j) (out ++ [UInt8.ofNat b.toNat]) (s.data.toList.drop (k + j)) = X) := by
          have h := hF2.out
          rw [if_neg (by simp), Int.toNat_natCast, List.drop_drop] at h
          exact h
        clear hF2
        go_wp2_with fail
        go_region_law (go_simp; go_at_call 27; refine (HRB.out _).mono ?_; rintro e w3 ⟨rfl, hk3⟩)
        all_goals
          have HK3 : Hid (Keeps Non wr w3) := ((Keeps.refl Non wr).drew).then hk3
          clear hk3 hld
          go_wp2_with (at_builtin; refine wpList_append_lies _ rfl _ _ 33 rfl (z + 1) 5 i0 (.int .u8 0) 1 1 Try.underlying33 hi hz0 hz1 hz2 rfl (by decide) _ q _ rfl (owns_keeps HO.out (HK3.out.alloc _) (fun _ _ x => x)) ⟨w3.heap.size, 0, none⟩ 1 1 [.int .u8 b] rfl rfl (World.news_of_block (Blk.newAt w3 [.int .u8 b] 5 rfl)) (by intro u hu; simp at hu; subst hu; rfl) (by decide) (by unfold maxLen; omega) (by omega) (by simp; have := HK3.out.size; have := HB.out.lt; omega) _ rfl ?_; intro g cap w4 hown hgrow hat hlt4)
          have HG := hide (And.intro hown hgrow)
          have HBk := hide (HB.out.keeps HK3.out (fun x => x))
          have HKa := hide (hK.out.then HK3.out)
          clear hown hgrow hat hlt4
          go_roundw
          case rel =>
            obtain ⟨hown, hgrow⟩ := HG.out
            refine ⟨k + j, f, q + 1, out ++ [UInt8.ofNat b.toNat], by omega, by omega, by omega, by go_num, ?_, keeps_grown (HKa.out.alloc _) hgrow (fun g hg => .inr (by have := own_ge HO.out g hg; have := HZ.out; omega)), ?_, hF3.out⟩
            · have e : Lib.byteCells (out ++ [UInt8.ofNat b.toNat]) = Lib.byteCells out ++ [.int .u8 b] := by
                have h1 : ((UInt8.ofNat b.toNat).toNat : Int) = b := by
                  rw [UInt8.toNat_ofNat']
                  omega
                simp only [Lib.byteCells, List.map_append, List.map_cons, List.map_nil, h1]
              show World.ownsRow _ _ _ _ _ _ _
              rw [e]
              exact hown
            · refine (HBk.out.alloc _).of_eq (hgrow.block z (HBk.out.alloc _).lt (fun e => ?_))
              have := own_ge HO.out z e.symm
              omega
          case measure => simp [intOf]; omega
      · have hX : X = ([], (k : Int), 20) := by
          have h := hF2.out
          rw [if_pos (by simp)] at h
          exact h.symm
        subst hX
        clear hF2
        go_wp2_with fail
        go_region_law (go_simp; go_at_call 27; refine (HRB.out _).mono ?_; rintro e w3 ⟨rfl, hk3⟩)
        all_goals
          have HK3 : Hid (Keeps Non wr w3) := ((Keeps.refl Non wr).drew).then hk3
          clear hk3 hld
          go_wp2_with fail
          go_ret3
          exact ⟨rfl, hK.out.then HK3.out⟩
    · have hX : X = (out, (k : Int), 0) := by
        have h := hF.out
        obtain ⟨g, rfl⟩ : ∃ g, f = g + 1 := ⟨f - 1, by omega⟩
        rw [List.drop_of_length_le (by have h1 : s.data.toList.length = s.size := rfl; have := HN.out; omega)] at h
        simp only [rdsF] at h
        exact h.symm
      subst hX
      have kc : (convert 33 9 u7).run Try.prog wr = _ := own_string hO.out
      have y9 : ¬ (k : Int) < (s.size : Int) := by have := HN.out; omega
      clear hF
      go_wp2_with fail
      go_ret3
      exact ⟨rfl, hK.out⟩
end Go.Proofs.Ytoogopcaieodoaa
