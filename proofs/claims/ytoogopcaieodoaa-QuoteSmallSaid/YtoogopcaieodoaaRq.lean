/-
  The reference's Unquote. No condition.
-/
import Derived.Test.YtoogopcaieodoaaRo
namespace Go.Proofs.Ytoogopcaieodoaa
open Go.RowKit Go.Shelf
attribute [local go_sem] onto_cell onto_frozen
attribute [-go_sem] loadCellsFrom
set_option linter.unusedVariables false
theorem unqR_other (s : ByteArray) (w : World) (h : s.size = 0 ∨ ∃ h0 : 0 < s.size, ((s[0].toNat : Int) != 34) = true) : Calls Try.prog 29 #[.string s] w fun e w' => e = .returned (.tuple #[.string ⟨#[]⟩, .int .i64 0, .int .i64 21]) ∧ Keeps Non w w' := by
  rcases h with h | ⟨h0, h1⟩
  · have e1 : ((s.size : Int) == 0) = true := by simp [h]
    clear h
    go_enter Try.func29, Try.ntmps29
    go_wp2_with fail
    go_ret3
    exact ⟨rfl, Keeps.refl _ _⟩
  · have e1 : ((s.size : Int) == 0) = false := by rw [beq_eq_false_iff_ne]; omega
    have y1 : (0 : Int) < (s.size : Int) := by omega
    go_enter Try.func29, Try.ntmps29
    go_wp2_with fail
    go_ret3
    exact ⟨rfl, Keeps.refl _ _⟩
set_option maxRecDepth 100000 in
set_option maxHeartbeats 40000000 in
theorem unqR_loop (s : ByteArray) (w : World) (hs : 0 < s.size) (hs2 : s.size ≤ 1000000) (hc : (s[0].toNat : Int) = 34) (X : List UInt8 × Int × Int) (hX : unqF s.size 1 [] (s.data.toList.drop 1) = X) :
    Calls Try.prog 29 #[.string s] w fun e w' => e = .returned (unqT X) ∧ Keeps Non w w' := by
  obtain ⟨i0, hi, hz0, hz1, hz2⟩ := info_parts Try.Builder_Extra_169.infoByte
  have e1 : ((s.size : Int) == 0) = false := by rw [beq_eq_false_iff_ne]; omega
  have y1 : (0 : Int) < (s.size : Int) := by omega
  obtain ⟨n, hn⟩ : ∃ n, s.size = n := ⟨_, rfl⟩
  have HN := hide hn
  have HX := hide hX
  rw [hn] at hs2
  unfold unqT
  clear hX hn
  have hv := zero60
  obtain ⟨Z, hZ⟩ : ∃ Z : Array Value, Array.replicate 256 (.int .i64 0) = Z := ⟨_, rfl⟩
  rw [hZ] at hv
  have HZz : Hid (Z = (List.replicate 256 (Value.int .i64 0)).toArray) := by
    show _ = _
    rw [← hZ]
    rfl
  have hZ0 : ¬ Z = #[] := by
    rw [← hZ]
    intro h
    have := congrArg Array.size h
    simp at this
  clear hZ
  have HO32 := hide (ofR_q w.heap.size 1 _ (Blk.new w [.int .u8 34] 5))
  go_enter Try.func29, Try.ntmps29
  go_wp2_with fail
  refine HO32.out.mono ?_
  rintro e w2 ⟨rfl, hk2⟩
  have hbz : Blk (w2.alloc (.cells Z 60)) w2.heap.size (List.replicate 256 (Value.int .i64 0)) 60 := by
    rw [HZz.out]
    exact Blk.new w2 (List.replicate 256 (Value.int .i64 0)) 60
  have hsc := sc60 hbz (by rw [List.length_replicate]) qm
  have HB0 : Hid (Blk ((w2.alloc (.cells Z 60)).setRow w2.heap.size (mkA qm)) w2.heap.size (mkL qm) 60) := blk_setRow hbz (mkL qm)
  have HK0 : Hid (Keeps Non w ((w2.alloc (.cells Z 60)).setRow w2.heap.size (mkA qm))) := by
    have h1 := (((Keeps.refl Non w).alloc (.cells #[.int .u8 34] 5)).then hk2).alloc (.cells Z 60)
    exact keeps_setRow h1 (.inr (by have := (((Keeps.refl Non w).alloc (.cells #[.int .u8 34] 5)).then hk2).size; exact this)) _
  have HzW : Hid (w.heap.size ≤ w2.heap.size) := (((Keeps.refl Non w).alloc (.cells #[.int .u8 34] 5)).then hk2).size
  clear hbz hk2
  go_wp2_with fail
  obtain ⟨z, hz⟩ : ∃ z, w2.heap.size = z := ⟨_, rfl⟩
  obtain ⟨W, hW⟩ : ∃ W, (w2.alloc (.cells Z 60)).setRow w2.heap.size (mkA qm) = W := ⟨_, rfl⟩
  rw [hW] at HB0 HK0 ⊢
  rw [hz] at HB0 HzW ⊢
  clear hsc hW hz hv hZ0
  have HL0 : Hid (z < W.heap.size) := HB0.out.lt
  go_loopw [6, 7] (fun v a wr => ∃ (k f q : Nat) (out : List UInt8), 1 ≤ k ∧ k ≤ n ∧ n < k + f ∧ q ≤ k ∧ a = .int .i64 k ∧ Hid (wr.ownsRow (z + 1) 5 1 v q (Lib.byteCells out)) ∧ Hid (Keeps Non w wr) ∧ Hid (Blk wr z (mkL qm) 60) ∧ Hid (unqF f k out (s.data.toList.drop k) = X)) (fun _ a _ => n - (intOf a).toNat)
  case atStart => exact ⟨1, n, 0, [], by omega, by have := HN.out; omega, by omega, by omega, rfl, World.ownsRow_nil _ _ _ _, HK0.out, HB0.out, by rw [← HN.out]; exact HX.out⟩
  case round =>
    clear HX HK0 HB0
    obtain ⟨k, f, q, out, hk1, hk, hf, hq, rfl, hO, hK, HB, hF⟩ := hrel
    by_cases hlt : k < n
    · have hlt' : k < s.size := by rw [HN.out]; exact hlt
      obtain ⟨f, rfl⟩ : ∃ g, f = g + 1 := ⟨f - 1, by omega⟩
      have hdr : s.data.toList.drop k = s[k] :: s.data.toList.drop (k + 1) := List.drop_eq_getElem_cons (l := s.data.toList) hlt'
      have HDr := hide hdr
      clear hdr
      have y0 : (0 : Int) ≤ (k : Int) := by omega
      have y3 : (k : Int) < (s.size : Int) := by omega
      have y2 : (k : Int) ≤ (s.size : Int) := by omega
      have e5 : ((k : Int) == (s.size : Int)) = false := by rw [beq_eq_false_iff_ne]; omega
      obtain ⟨c, hcc⟩ : ∃ c : Int, (s[k].toNat : Int) = c := ⟨_, rfl⟩
      by_cases h34 : c = 34
      · subst h34
        have hX : X = (out, (k : Int) + 1, 0) := by
          rw [← hF.out, HDr.out]
          simp only [unqF]
          rw [if_pos hcc]
        subst hX
        have kc : (convert 33 9 u6).run Try.prog wr = _ := own_string hO.out
        clear hF
        go_wp2_with fail
        go_ret3
        exact ⟨rfl, hK.out⟩
      · have hne : (c != 34) = true := by simpa using h34
        have hl : (s.extract k s.size).data.toList = s.data.toList.drop k := by
          rw [Lib.extract_data, List.take_of_length_le]
          rw [List.length_drop]
          have : s.data.toList.length = s.size := rfl
          omega
        have hlen : (s.data.toList.drop k).length = n - k := by
          rw [List.length_drop, ← HN.out]
          rfl
        have hn1 := rdB_n qm (s.data.toList.drop k)
        have hn2 := rdB_byte qm (s.data.toList.drop k)
        obtain ⟨⟨b, nn, e⟩, hR⟩ : ∃ x, rdB qm (s.data.toList.drop k) = x := ⟨_, rfl⟩
        have HRB := hide (fun w => readByteR_l qm (s.extract k s.size) (.tuple #[.int .u8 b, .int .i64 nn, .int .i64 e]) (by rw [hl, hR]; rfl) w)
        rw [hR, hlen] at hn1
        rw [hR] at hn2
        simp only [] at hn1 hn2
        obtain ⟨b0, b1⟩ := hn2
        have hF2 : Hid (if e ≠ 0 then ([], (k : Int), e) = X else unqF f (k + nn.toNat) (out ++ [UInt8.ofNat b.toNat]) ((s.data.toList.drop k).drop nn.toNat) = X) := by
          have h := hF.out
          rw [HDr.out] at hR
          rw [HDr.out] at h
          simp only [unqF] at h
          rw [if_neg (by rw [hcc]; exact h34), hR] at h
          simp only [] at h
          rw [HDr.out]
          show ite _ _ _
          split
          · rename_i he
            rw [if_pos he] at h
            exact h
          · rename_i he
            rw [if_neg he] at h
            exact h
        have HO := hide hO.out
        have hld := lc60 HB.out.drew
        clear hF hR hl hO
        rcases hn1 with ⟨rfl, hn1, hn2⟩ | ⟨rfl, rfl, rfl⟩
        · obtain ⟨j, rfl⟩ := Int.eq_ofNat_of_zero_le (show 0 ≤ nn by omega)
          have hF3 : Hid (unqF f (k + j) (out ++ [UInt8.ofNat b.toNat]) (s.data.toList.drop (k + j)) = X) := by
            have h := hF2.out
            rw [if_neg (by simp), Int.toNat_natCast, List.drop_drop] at h
            exact h
          clear hF2
          go_wp2_with fail
          go_region_law (go_simp; go_at_call 27; refine (HRB.out _).mono ?_; rintro e w3 ⟨rfl, hk3⟩)
          all_goals
            have HK3 : Hid (Keeps Non wr w3) := ((Keeps.refl Non wr).drew).then hk3
            clear hk3 hld
            go_wp2_with (at_builtin; refine wpList_append_lies _ rfl _ _ 33 rfl (z + 1) 5 i0 (.int .u8 0) 1 1 Try.underlying33 hi hz0 hz1 hz2 rfl (by decide) _ q _ rfl (owns_keeps HO.out (HK3.out.alloc _) (fun _ _ x => x)) ⟨w3.heap.size, 0, none⟩ 1 1 [.int .u8 b] rfl rfl (World.news_of_block (Blk.newAt w3 [.int .u8 b] 5 rfl)) (by intro u hu; simp at hu; subst hu; rfl) (by decide) (by unfold maxLen; omega) (by omega) (by simp; have := HK3.out.size; have := HB.out.lt; omega) _ rfl ?_; intro g cap w4 hown hgrow hat hlt4)
            have HG := hide (And.intro hown hgrow)
            have HBk := hide (HB.out.keeps HK3.out (fun x => x))
            have HKa := hide (hK.out.then HK3.out)
            clear hown hgrow hat hlt4
            go_roundw
            case rel =>
              obtain ⟨hown, hgrow⟩ := HG.out
              refine ⟨k + j, f, q + 1, out ++ [UInt8.ofNat b.toNat], by omega, by omega, by omega, by omega, by go_num, ?_, keeps_grown (HKa.out.alloc _) hgrow (fun g hg => .inr (by have := own_ge HO.out g hg; have := HzW.out; omega)), ?_, hF3.out⟩
              · have e : Lib.byteCells (out ++ [UInt8.ofNat b.toNat]) = Lib.byteCells out ++ [.int .u8 b] := by
                  have h1 : ((UInt8.ofNat b.toNat).toNat : Int) = b := by
                    rw [UInt8.toNat_ofNat']
                    omega
                  simp only [Lib.byteCells, List.map_append, List.map_cons, List.map_nil, h1]
                show World.ownsRow _ _ _ _ _ _ _
                rw [e]
                exact hown
              · refine (HBk.out.alloc _).of_eq (hgrow.block z (HBk.out.alloc _).lt (fun e => ?_))
                have := own_ge HO.out z e.symm
                omega
            case measure => simp [intOf]; omega
        · have hX : X = ([], (k : Int), 20) := by
            have h := hF2.out
            rw [if_pos (by simp)] at h
            exact h.symm
          subst hX
          clear hF2
          go_wp2_with fail
          go_region_law (go_simp; go_at_call 27; refine (HRB.out _).mono ?_; rintro e w3 ⟨rfl, hk3⟩)
          all_goals
            have HK3 : Hid (Keeps Non wr w3) := ((Keeps.refl Non wr).drew).then hk3
            clear hk3 hld
            go_wp2_with fail
            go_ret3
            exact ⟨rfl, hK.out.then HK3.out⟩
    · have hX : X = ([], (k : Int), 21) := by
        have h := hF.out
        obtain ⟨g, rfl⟩ : ∃ g, f = g + 1 := ⟨f - 1, by omega⟩
        rw [List.drop_of_length_le (by have h1 : s.data.toList.length = s.size := rfl; have := HN.out; omega)] at h
        simp only [unqF] at h
        exact h.symm
      subst hX
      have y9 : ¬ (k : Int) < (s.size : Int) := by have := HN.out; omega
      have e5 : ((k : Int) == (s.size : Int)) = true := by rw [beq_iff_eq]; have := HN.out; omega
      clear hF
      go_wp2_with fail
      go_ret3
      exact ⟨rfl, hK.out⟩
/-- UNQUOTE OF THE REFERENCE. -/
theorem unquoteR_l (s : ByteArray) (w : World) (hs : s.size ≤ 1000000) :
    Calls Try.prog 29 #[.string s] w fun e w' => e = .returned (unqT (unq s.data.toList)) ∧ Keeps Non w w' := by
  obtain ⟨⟨l⟩⟩ := s
  match l with
  | [] => exact unqR_other _ w (.inl rfl)
  | c :: r =>
    have h0 : 0 < (ByteArray.mk ⟨c :: r⟩).size := Nat.succ_pos _
    by_cases hc : (c.toNat : Int) = 34
    · refine unqR_loop _ w h0 hs hc _ ?_
      show unqF (r.length + 1) 1 [] r = unq (c :: r)
      simp only [unq]
      rw [if_pos hc]
    · have e : unq (c :: r) = ([], 0, 21) := by
        simp only [unq]
        rw [if_neg hc]
      show Calls _ _ _ _ fun e w' => e = .returned (unqT (unq (c :: r))) ∧ _
      rw [e]
      exact unqR_other _ w (.inr ⟨h0, show ((c.toNat : Int) != 34) = true from by simpa using hc⟩)
end Go.Proofs.Ytoogopcaieodoaa
