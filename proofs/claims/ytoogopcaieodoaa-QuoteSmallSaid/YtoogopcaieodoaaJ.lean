/-
  The walk over Unquote. No condition.
-/
import Derived.Test.YtoogopcaieodoaaI
namespace Go.Proofs.Ytoogopcaieodoaa
open Go.RowKit
attribute [local go_sem] onto_cell onto_frozen
theorem unq_empty (w : World) : Calls Try.prog 12 #[.string ⟨#[]⟩] w fun e w' => e = .returned (.tuple #[.string ⟨#[]⟩, .int .i64 0, .int .i64 21]) ∧ Keeps Non w w' := by
  go_enter Try.func12, Try.ntmps12
  go_wp2_with fail
  go_ret3
  exact ⟨rfl, Keeps.refl _ _⟩
theorem unq_other (s : ByteArray) (w : World) (hs : 0 < s.size) (hc : ((s[0].toNat : Int) != 34) = true) : Calls Try.prog 12 #[.string s] w fun e w' => e = .returned (.tuple #[.string ⟨#[]⟩, .int .i64 0, .int .i64 21]) ∧ Keeps Non w w' := by
  have e1 := not_empty hs
  have z0 : (0 : Int) < (s.size : Int) := by omega
  go_enter Try.func12, Try.ntmps12
  go_wp2_with fail
  go_ret3
  exact ⟨rfl, Keeps.refl _ _⟩
set_option maxHeartbeats 2000000 in
theorem unq_loop (s : ByteArray) (w : World) (hs : 0 < s.size) (hs2 : s.size ≤ 1000000) (hc : (s[0].toNat : Int) = 34) (X : List UInt8 × Int × Int) (hX : unqF s.size 1 [] (s.data.toList.drop 1) = X) :
    Calls Try.prog 12 #[.string s] w fun e w' => e = .returned (unqT X) ∧ Keeps Non w w' := by
  obtain ⟨i0, hi, hz0, hz1, hz2⟩ := info_parts Try.Builder_Extra_169.infoByte
  have e1 := not_empty hs
  have z0 : (0 : Int) < (s.size : Int) := by omega
  obtain ⟨n, hn⟩ : ∃ n, s.size = n := ⟨_, rfl⟩
  have HN := hide hn
  have HX := hide hX
  rw [hn] at hs2
  unfold unqT
  clear hX
  go_enter Try.func12, Try.ntmps12
  go_wp2_with fail
  go_loopw [5, 6] (fun v a wr => ∃ (k f q : Nat) (out : List UInt8), 1 ≤ k ∧ k ≤ n ∧ n < k + f ∧ q ≤ k ∧ a = .int .i64 k ∧ Hid (wr.ownsRow w.heap.size 5 1 v q (Lib.byteCells out)) ∧ Hid (Keeps Non w wr) ∧ Hid (unqF f k out (s.data.toList.drop k) = X)) (fun _ a _ => n - (intOf a).toNat)
  case atStart => exact ⟨1, n, 0, [], by omega, by omega, by omega, by omega, rfl, World.ownsRow_nil _ _ _ _, Keeps.refl _ _, by rw [← HN.out]; exact HX.out⟩
  case round =>
    clear HX
    obtain ⟨k, f, q, out, hk1, hk, hf, hq, rfl, hO, hK, hF⟩ := hrel
    by_cases hlt : k < n
    · have hlt' : k < s.size := by rw [HN.out]; exact hlt
      obtain ⟨f, rfl⟩ : ∃ g, f = g + 1 := ⟨f - 1, by omega⟩
      have hdr : s.data.toList.drop k = s[k] :: s.data.toList.drop (k + 1) := List.drop_eq_getElem_cons (l := s.data.toList) hlt'
      have HDr := hide hdr
      clear hdr
      have y0 : (0 : Int) ≤ (k : Int) := by omega
      have y1 : (k : Int) < (s.size : Int) := by omega
      have y2 : (k : Int) < (n : Int) := by omega
      obtain ⟨c, hcc⟩ : ∃ c : Int, (s[k].toNat : Int) = c := ⟨_, rfl⟩
      by_cases h34 : c = 34
      · subst h34
        have hX : X = (out, (k : Int) + 1, 0) := by
          rw [← hF.out, HDr.out]
          simp only [unqF]
          rw [if_pos hcc]
        subst hX
        have kc := own_string hO.out
        clear hF
        go_wp2_with fail
        go_ret3
        exact ⟨rfl, hK.out⟩
      · have hne : (c == 34) = false := by simpa using h34
        have hl : (s.extract k n).data.toList = s.data.toList.drop k := by
          rw [Lib.extract_data, List.take_of_length_le]
          rw [List.length_drop]
          have : s.data.toList.length = s.size := rfl
          omega
        have hlen : (s.data.toList.drop k).length = n - k := by
          rw [List.length_drop, ← HN.out]
          rfl
        have hn1 := rdB_n qm (s.data.toList.drop k)
        have hn2 := rdB_byte qm (s.data.toList.drop k)
        obtain ⟨⟨b, nn, e⟩, hR⟩ : ∃ x, rdB qm (s.data.toList.drop k) = x := ⟨_, rfl⟩
        have HRB := hide (fun w => rb_any qm (s.extract k n) w)
        rw [hl, hR] at HRB
        unfold rdT at HRB
        rw [hR, hlen] at hn1
        rw [hR] at hn2
        simp only [] at hn1 hn2 HRB
        obtain ⟨b0, b1⟩ := hn2
        have hF2 : Hid (if e ≠ 0 then ([], (k : Int), e) = X else unqF f (k + nn.toNat) (out ++ [UInt8.ofNat b.toNat]) ((s.data.toList.drop k).drop nn.toNat) = X) := by
          have h := hF.out
          rw [HDr.out] at hR
          rw [HDr.out] at h
          simp only [unqF] at h
          rw [if_neg (by rw [hcc]; exact h34), hR] at h
          simp only [] at h
          rw [HDr.out]
          show ite _ _ _
          split
          · rename_i he
            rw [if_pos he] at h
            exact h
          · rename_i he
            rw [if_neg he] at h
            exact h
        have HO := hide hO.out
        clear hF hR hl hO
        rcases hn1 with ⟨rfl, hn1, hn2⟩ | ⟨rfl, rfl, rfl⟩
        · obtain ⟨j, rfl⟩ := Int.eq_ofNat_of_zero_le (show 0 ≤ nn by omega)
          have hF3 : Hid (unqF f (k + j) (out ++ [UInt8.ofNat b.toNat]) (s.data.toList.drop (k + j)) = X) := by
            have h := hF2.out
            rw [if_neg (by simp), Int.toNat_natCast, List.drop_drop] at h
            exact h
          clear hF2
          go_wp2_with fail
          go_region_with (first | (go_at_call 24; refine (of_q wr.heap.size 1 _ (Blk.new wr [.int .u8 34] 5).drew).mono ?_; rintro e w2 ⟨rfl, hk2⟩) | (go_at_call 20; refine (HRB.out _).mono ?_; rintro e w3 ⟨rfl, hk3⟩))
          have HK3 : Hid (Keeps Non wr w3) := (((Keeps.refl Non wr).alloc _).drew.then hk2).then hk3
          clear hk2 hk3
          go_wp2_with (at_builtin; refine wpList_append_own _ rfl _ _ 33 rfl w.heap.size 5 i0 (.int .u8 0) 1 1 Try.underlying33 hi hz0 hz1 hz2 rfl (by decide) _ q _ rfl (owns_keeps HO.out (HK3.out.alloc _) (fun _ _ x => x)) ⟨w3.heap.size, 0, none⟩ 1 1 [.int .u8 b] rfl ?qc1 ?qc2 ?qc3 ?qc4 ?qc5 ?qc6 ?_)
          case qc1 => rfl
          case qc2 =>
            intro j u hj
            have hj0 : j = 0 := by
              have := (List.getElem?_eq_some_iff.1 hj).1
              simpa using this
            subst hj0
            rw [Addr.add_lit]
            have := (Blk.newAt w3 [.int .u8 b] 5 rfl).cell 0
            simp at hj
            subst hj
            exact this
          case qc3 => intro u hu; simp at hu; subst hu; rfl
          case qc4 => unfold maxLen; omega
          case qc5 => omega
          case qc6 => simp; have := HK3.out.size; have := hK.out.size; omega
          intro v' w4 hown hgrow hnil
          have HG := hide (And.intro hown hgrow)
          clear hown hgrow hnil
          go_wp2
          go_roundw
          case rel =>
            obtain ⟨hown, hgrow⟩ := HG.out
            refine ⟨k + j, f, q + 1, out ++ [UInt8.ofNat b.toNat], by omega, by omega, by omega, by omega, by go_num, ?_, keeps_grown ((hK.out.then HK3.out).alloc _) hgrow (fun g hg => .inr (own_ge HO.out g hg)), hF3.out⟩
            have e : Lib.byteCells (out ++ [UInt8.ofNat b.toNat]) = Lib.byteCells out ++ [.int .u8 b] := by
              have h1 : ((UInt8.ofNat b.toNat).toNat : Int) = b := by
                rw [UInt8.toNat_ofNat']
                omega
              simp only [Lib.byteCells, List.map_append, List.map_cons, List.map_nil, h1]
            show World.ownsRow _ _ _ _ _ _ _
            rw [e]
            exact hown
          case measure => simp [intOf]; omega
        · have hX : X = ([], (k : Int), 20) := by
            have h := hF2.out
            rw [if_pos (by simp)] at h
            exact h.symm
          subst hX
          clear hF2
          go_wp2_with fail
          go_region_with (first | (go_at_call 24; refine (of_q wr.heap.size 1 _ (Blk.new wr [.int .u8 34] 5).drew).mono ?_; rintro e w2 ⟨rfl, hk2⟩) | (go_at_call 20; refine (HRB.out _).mono ?_; rintro e w3 ⟨rfl, hk3⟩))
          go_wp2_with fail
          go_ret3
          exact ⟨rfl, (hK.out.then (((Keeps.refl Non wr).alloc _).drew.then hk2)).then hk3⟩
    · have hX : X = ([], (n : Int), 21) := by
        have h := hF.out
        obtain ⟨g, rfl⟩ : ∃ g, f = g + 1 := ⟨f - 1, by omega⟩
        rw [List.drop_of_length_le (by have : s.data.toList.length = s.size := rfl; omega)] at h
        simp only [unqF] at h
        rw [← h]
        have : k = n := by omega
        rw [this]
      subst hX
      clear hF
      go_wp2_with fail
      go_ret3
      exact ⟨rfl, hK.out⟩
/-- UNQUOTE. -/
theorem unquote_any (s : ByteArray) (w : World) (hs : s.size ≤ 1000000) :
    Calls Try.prog 12 #[.string s] w fun e w' => e = .returned (unqT (unq s.data.toList)) ∧ Keeps Non w w' := by
  obtain ⟨⟨l⟩⟩ := s
  match l with
  | [] => exact unq_empty w
  | c :: r =>
    have h0 : 0 < (ByteArray.mk ⟨c :: r⟩).size := Nat.succ_pos _
    by_cases hc : (c.toNat : Int) = 34
    · refine unq_loop _ w h0 hs hc _ ?_
      show unqF (r.length + 1) 1 [] r = unq (c :: r)
      simp only [unq]
      rw [if_pos hc]
    · have e : unq (c :: r) = ([], 0, 21) := by
        simp only [unq]
        rw [if_neg hc]
      show Calls _ _ _ _ fun e w' => e = .returned (unqT (unq (c :: r))) ∧ _
      rw [e]
      exact unq_other _ w h0 (show ((c.toNat : Int) != 34) = true from by simpa using hc)
end Go.Proofs.Ytoogopcaieodoaa
