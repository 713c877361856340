/-
  The walk over QuoteBack. No condition.
-/
import Derived.Test.YtoogopcaieodoaaT
namespace Go.Proofs.Ytoogopcaieodoaa
open Go.RowKit Go.Shelf
attribute [local go_sem] onto_cell onto_frozen
theorem str_of (l : List UInt8) : ∃ s : ByteArray, s.data.toList = l := ⟨⟨l.toArray⟩, rfl⟩
theorem str_ext {s t : ByteArray} (h : s.data.toList = t.data.toList) : s = t := ByteArray.ext (Array.toList_inj.1 h)
theorem str_append (s t : ByteArray) : (s ++ t).data.toList = s.data.toList ++ t.data.toList := by rw [ByteArray.data_append, Array.toList_append]
set_option maxRecDepth 100000 in
set_option maxHeartbeats 4000000 in
theorem law_back (a0 a1 : ByteArray) (m : Mk) (w : World) :
    Calls Try.prog 6 #[.string a0, .string a1, .agg #[.int .u64 m.w0, .int .u64 m.w1, .int .u64 m.w2, .int .u64 m.w3]] w fun e w' => e = .returned (.bool true) ∧ Keeps Non w w' := by
  go_enter Try.func6, Try.ntmps6
  go_wp2_with fail
  have HB := hide (Blk.new w (wl m) 24)
  have HK := hide ((Keeps.refl Non w).alloc (.cells #[.int .u64 m.w0, .int .u64 m.w1, .int .u64 m.w2, .int .u64 m.w3] 24))
  obtain ⟨z, hz⟩ : ∃ z, w.heap.size = z := ⟨_, rfl⟩
  rw [hz] at HB ⊢
  have HZ := hide hz
  clear hz
  refine (awake_any _).mono ?_
  rintro e w3 ⟨rfl, hk⟩
  replace HB := hide (HB.out.keeps hk (fun x => x))
  replace HK := hide (HK.out.then hk)
  clear hk
  go_wp2_with fail
  go_region
  obtain ⟨a, ha⟩ : ∃ a, a0.extract 0 (min (a0.size : Int) 150).toNat = a := ⟨_, rfl⟩
  obtain ⟨b, hb⟩ : ∃ b, a1.extract 0 (min (a1.size : Int) 150).toNat = b := ⟨_, rfl⟩
  rw [ha, hb]
  have sa : a.size ≤ 150 := by rw [← ha]; exact Nat.le_trans (cut_size _ _) (by omega)
  have sb : b.size ≤ 150 := by rw [← hb]; exact Nat.le_trans (cut_size _ _) (by omega)
  clear ha hb
  replace HK := hide HK.out.drew
  replace HB := hide HB.out.drew
  generalize w3.drew = V at *
  have lz := HB.out.lt
  have c0 : V.cell? ⟨z, 0, none⟩ = some (.int .u64 m.w0) := HB.out.cell 0
  have c1 : V.cell? ⟨z, 1, none⟩ = some (.int .u64 m.w1) := HB.out.cell 1
  have c2 : V.cell? ⟨z, 2, none⟩ = some (.int .u64 m.w2) := HB.out.cell 2
  have c3 : V.cell? ⟨z, 3, none⟩ = some (.int .u64 m.w3) := HB.out.cell 3
  obtain ⟨s, hs⟩ := str_of (formsL m a.data.toList)
  obtain ⟨t, ht⟩ := str_of (formsL m b.data.toList)
  have HS := hide hs
  have HT := hide ht
  have ls : s.size ≤ 4 * a.size := by
    have := formsL_length m a.data.toList
    rw [← hs] at this
    exact this
  have lt : t.size ≤ 4 * b.size := by
    have := formsL_length m b.data.toList
    rw [← ht] at this
    exact this
  clear hs ht
  have Q1 := hide (fun w => bytes_l m a s w (by omega) HS.out)
  have Q2 := hide (fun w => bytes_l m b t w (by omega) HT.out)
  have Q3 := hide (fun w => bytes_l m (a ++ b) (s ++ t) w (by rw [ByteArray.size_append]; omega) (by rw [str_append, str_append, formsL_append, HS.out, HT.out]))
  have Q4 := hide (fun w => rds_l m s (.tuple #[.string a, .int .i64 s.size, .int .i64 0]) w (by omega) (by
    rw [HS.out, rds_forms, ← HS.out]
    rfl))
  have y1 : ¬ 9223372036854775807 < a.size + b.size := by omega
  have y2 : ¬ 9223372036854775807 < s.size + t.size := by omega
  have hE : (s.toList == t.toList) = (a.toList == b.toList) := by
    rw [Lib.toList_data, Lib.toList_data, Lib.toList_data, Lib.toList_data, HS.out, HT.out, Bool.eq_iff_iff, beq_iff_eq, beq_iff_eq]
    exact ⟨forms_inj m _ _, fun h => by rw [h]⟩
  go_wp2_with fail
  refine wp_region_onto (by kernel_rfl) (by kernel_rfl) ?_
  repeat (go_big_quiet_step (first | (go_at_call 18; (first | (with_reducible exact onto_call (Q1.out _)) | (with_reducible exact onto_call (Q2.out _))))))
  refine wpQuiet_nil ?_
  rintro _ ⟨u, rfl⟩
  go_wp2_with fail
  refine (onto_call (Q4.out _)).mono ?_
  rintro e _ ⟨rfl, u, rfl⟩
  go_wp2_with fail
  refine (onto_call (Q3.out _)).mono ?_
  rintro e _ ⟨rfl, u, rfl⟩
  go_wp2_with fail
  clear hE y1 Q1 Q2 Q3 Q4
  obtain ⟨n, hn⟩ : ∃ n, a.size = n := ⟨_, rfl⟩
  have HN := hide hn
  have e0 : Hid ((formsL m (a.data.toList.take 0)).length = 0) := rfl
  clear hn
  go_loopw [12, 79] (fun p i wr => ∃ (k q : Nat) (u : World), k ≤ n ∧ i = .int .i64 k ∧ p = .int .i64 q ∧ Hid ((formsL m (a.data.toList.take k)).length = q) ∧ wr = onto V u) (fun _ i _ => n - (intOf i).toNat)
  case atStart => exact ⟨0, 0, u, by omega, rfl, rfl, rfl, rfl⟩
  case round =>
    obtain ⟨k, q, u, hk, rfl, rfl, hq, rfl⟩ := hrel
    by_cases hlt : k < n
    · have hk' : k < a.size := by rw [HN.out]; exact hlt
      obtain ⟨c, hc⟩ : ∃ c : Int, (a[k].toNat : Int) = c := ⟨_, rfl⟩
      have hq2 : q ≤ s.size := by
        have h := hq.out
        have h2 : formsL m a.data.toList = formsL m (a.data.toList.take k) ++ formsL m (a.data.toList.drop k) := by rw [← formsL_append, List.take_append_drop]
        have h3 : s.data.toList.length = s.size := rfl
        rw [HS.out, h2, List.length_append] at h3
        omega
      obtain ⟨o, ho⟩ := str_of (formB m a[k])
      have HO := hide ho
      have lo : o.size ≤ 4 := by
        have h := form_size m (a[k].toNat : Int)
        have h2 : (form m (a[k].toNat : Int)).data.toList = o.data.toList := by rw [formB_eq, ho]
        have h3 : (form m (a[k].toNat : Int)).size = o.size := by
          show (form m (a[k].toNat : Int)).data.toList.length = o.data.toList.length
          rw [h2]
        omega
      clear ho
      have R1 := hide (fun w => byte_l m a[k] c o w hc HO.out)
      have R2 := hide (fun w => rb_l m (o ++ t) (.tuple #[.int .u8 c, .int .i64 o.size, .int .i64 0]) w (by
        rw [str_append, HO.out, rdB_form, hc, ← HO.out]
        rfl))
      have hcons : formsL m a.data.toList = formsL m (a.data.toList.take k) ++ (formB m a[k] ++ formsL m (a.data.toList.drop (k + 1))) := by
        rw [← formsL_cons, ← formsL_append]
        congr 1
        have : a.data.toList.drop k = a[k] :: a.data.toList.drop (k + 1) := List.drop_eq_getElem_cons (l := a.data.toList) hk'
        rw [← this, List.take_append_drop]
      have R3 := hide (fun w => prefix_l (s.extract q s.size) o true w (by
        rw [Lib.extract_data, HS.out, hcons, ← hq.out, HO.out]
        rw [List.drop_append_of_le_length (Nat.le_refl _), List.drop_length, List.nil_append]
        rw [List.take_of_length_le (by
          have h3 : s.data.toList.length = s.size := rfl
          rw [HS.out, hcons] at h3
          simp only [List.length_append] at h3 ⊢
          omega)]
        simp [Lib.hasPrefix]))
      have hq1 : Hid ((formsL m (a.data.toList.take (k + 1))).length = q + o.size) := by
        have h := formsL_next m a k hk'
        rw [formB_eq, ← HO.out] at h
        show List.length _ = _
        rw [h, List.length_append, hq.out]
        rfl
      clear hcons
      have y0 : (0 : Int) ≤ (k : Int) := by omega
      have y1 : (k : Int) < (a.size : Int) := by omega
      have y3 : ¬ 9223372036854775807 < o.size + t.size := by omega
      have hmin : min (q : Int) (s.size : Int) = (q : Int) := by omega
      have q0 : (0 : Int) ≤ (q : Int) := by omega
      have q1 : (q : Int) ≤ (s.size : Int) := by omega
      go_wp2_with fail
      refine wp_region_onto2 (by kernel_rfl) (by kernel_rfl) ?_
      repeat (go_big_quiet_step (first | (go_at_call 14; (with_reducible exact onto_call (R1.out _)))))
      refine wpQuiet_nil ?_
      rintro _ ⟨u, rfl⟩
      go_wp2_with fail
      refine (onto_call (R2.out _)).mono ?_
      rintro e _ ⟨rfl, u, rfl⟩
      go_wp2_with fail
      refine (R3.out _).mono ?_
      rintro e _ ⟨rfl, rfl⟩
      go_wp2_with fail
      go_roundw
      case rel => exact ⟨k + 1, q + o.size, u, by omega, by go_num, by go_num, hq1, rfl⟩
      case measure => simp [intOf]; omega
    · have hkn : k = n := by omega
      subst hkn
      have hqs : q = s.size := by
        have h := hq.out
        rw [← HN.out, List.take_of_length_le (by exact Nat.le_refl _), ← HS.out] at h
        exact h.symm
      subst hqs
      clear hq
      have y9 : ¬ (k : Int) < (a.size : Int) := by have := HN.out; omega
      go_wp2_with fail
      clear y9
      obtain ⟨N, hN⟩ : ∃ N, s.size = N := ⟨_, rfl⟩
      have HSn := hide hN
      clear hN
      go_loopw [129] (fun i wr => ∃ (k : Nat) (u : World), k ≤ N ∧ i = .int .i64 k ∧ wr = onto V u) (fun i _ => N - (intOf i).toNat)
      case atStart => exact ⟨0, u, by omega, rfl, rfl⟩
      case round =>
        obtain ⟨k, u, hk, rfl, rfl⟩ := hrel
        by_cases hlt : k < N
        · have hk' : k < s.size := by rw [HSn.out]; exact hlt
          obtain ⟨c, hc⟩ : ∃ c : Int, (s[k].toNat : Int) = c := ⟨_, rfl⟩
          obtain ⟨h1, h2, h3⟩ := forms_marks m a.data.toList k s[k] (by
            rw [← HS.out]
            exact List.getElem?_eq_getElem (l := s.data.toList) hk')
          have y0 : (0 : Int) ≤ (k : Int) := by omega
          have y1 : (k : Int) < (s.size : Int) := by omega
          have z1 : (decide (c < 32)) = false := by simp; omega
          have z2 : (decide (126 < c)) = false := by simp; omega
          have b0 : 0 ≤ c := by rw [← hc]; exact (u8_bd _).1
          have b1 : c ≤ 255 := by rw [← hc]; exact (u8_bd _).2
          by_cases h92 : c = 92
          · subst h92
            clear h1 h2 h3
            go_wp2_with fail
            refine wp_region_onto2 (by kernel_rfl) (by kernel_rfl) ?_
            repeat (go_big_quiet_step (fail))
            refine wpQuiet_nil ?_
            rintro _ ⟨u, rfl⟩
            go_wp2_with fail
            go_roundw
            case rel => exact ⟨k + 1, u, by omega, by go_num, rfl⟩
            case measure => simp [intOf]; omega
          · have e92 : (c != 92) = true := by simpa using h92
            have H92 := hide h92
            clear h92
            cases hm : isMk m c with
            | false =>
              have R1 := hide (fun w => counts_at m c false w b0 b1 hm)
              clear h1 h2 h3 hm
              go_wp2_with fail
              refine wp_region_onto2 (by kernel_rfl) (by kernel_rfl) ?_
              repeat (go_big_quiet_step (first | (go_at_call 22; exact onto_call (R1.out _))))
              refine wpQuiet_nil ?_
              rintro _ ⟨u, rfl⟩
              go_wp2_with fail
              go_roundw
              case rel => exact ⟨k + 1, u, by omega, by go_num, rfl⟩
              case measure => simp [intOf]; omega
            | true =>
              have R1 := hide (fun w => counts_at m c true w b0 b1 hm)
              have h4 : 0 < k ∧ (formsL m a.data.toList)[k - 1]? = some 92 := by
                rcases h3 with h3 | h3 | h3
                · refine absurd ?_ H92.out
                  rw [← hc, h3]
                  rfl
                · rw [hc, hm] at h3
                  cases h3
                · exact h3
              obtain ⟨h5, h6⟩ := h4
              have q2 : ((s[k - 1]'(by omega)).toNat : Int) = 92 := getElem_of (c := 92) HS.out _ h6
              have e0 : ((k : Int) == 0) = false := by simp; omega
              have y4 : (0 : Int) ≤ (k : Int) - 1 := by omega
              have y5 : (k : Int) - 1 < (s.size : Int) := by omega
              clear h1 h2 h3 hm h6
              go_wp2_with fail
              refine wp_region_onto2 (by kernel_rfl) (by kernel_rfl) ?_
              repeat (go_big_quiet_step (first | (go_at_call 22; exact onto_call (R1.out _))))
              refine wpQuiet_nil ?_
              rintro _ ⟨u, rfl⟩
              go_wp2_with fail
              go_roundw
              case rel => exact ⟨k + 1, u, by omega, by go_num, rfl⟩
              case measure => simp [intOf]; omega
        · have hkn : ¬ (k : Int) < (s.size : Int) := by have := HSn.out; omega
          go_wp2_with fail
          go_ret
          exact ⟨rfl, HK.out.then (onto_keeps V u)⟩
end Go.Proofs.Ytoogopcaieodoaa
