/-
  The forms of the backslash, a mark. No condition.
-/
import Derived.Test.YtoogopcaieodoaaRg
namespace Go.Proofs.Ytoogopcaieodoaa
open Go.RowKit Go.Shelf
attribute [local go_sem] onto_cell onto_frozen
attribute [-go_sem] loadCellsFrom
set_option linter.unusedVariables false
set_option maxRecDepth 100000 in
set_option maxHeartbeats 40000000 in
theorem forms_slash_yes (m : Mk) (u : UInt8) (c : Int) (hu : (u.toNat : Int) = c) (w : World) (h0 : 32 ≤ c) (h1 : c ≤ 126) (e92 : (c == 92) = true) (n92 : (c != 92) = false) (hm : isMk m c = true) :
    Calls Try.prog 44 #[.int .u8 c, .agg (mkA m)] w fun e w' => RetS w w' e (fm m u) := by
  obtain ⟨i9, hi9, hz9, hs9, hb9⟩ := info9_parts
  have HM := hide (fun w => markR_at m c true w (by omega) (by omega) hm)
  have HU := hide hu
  have hR : Hid (r0 m u = [[92, u]]) := by
    show _ = _
    unfold r0
    rw [if_pos (.inl ((u8_int u 92).1 (by rw [hu]; simpa using e92)))]
  have kc := fun w => conv1 w c 5
  clear hu hm
  obtain ⟨n, hn⟩ : ∃ n, w.heap.size = n := ⟨_, rfl⟩
  obtain ⟨V, hV⟩ : ∃ V, w.alloc (.cells (mkA m) 60) = V := ⟨_, rfl⟩
  have HB : Hid (Blk V n (mkL m) 60) := by rw [← hV]; exact blkA_new w m hn.symm
  have HK : Hid (Keeps Non w V) := by rw [← hV]; exact (Keeps.refl _ _).alloc _
  have HV := hide hV
  have HN := hide hn
  have HSz : Hid (V.heap.size = n + 1) := by show _ = _; rw [← hV, ← hn]; simp
  clear hV hn
  have hl := lc60 HB.out
  have hlo := fun u => lc60 (HB.out.keeps (onto_keeps V u) (fun x => x))
  go_enter Try.func44, Try.ntmps44
  go_upto_region 2 with fail
  rw [HN.out, HV.out]
  have hz1 : ¬ 9223372036854775807 < 1 + (strOfNums [c]).size := by
    rw [strOfNums_size]
    simp
  go_wp2_with fail
  refine (HM.out _).mono ?_
  rintro e w2 ⟨rfl, hk2⟩
  obtain ⟨u2, rfl⟩ : ∃ u, w2 = onto V u := ⟨w2, (onto_of hk2).symm⟩
  clear hk2
  go_wp2_with (at_builtin; refine wpList_append_lies _ rfl _ _ 55 rfl (n + 1) 9 i9 (.string ⟨#[]⟩) 1 16 Try.underlying55 hi9 hz9 hs9 hb9 rfl (by decide) _ 0 _ rfl (World.ownsRow_nil _ _ _ _) ⟨(onto V u2).heap.size + 1, 0, none⟩ 1 1 [.string ((⟨#[92]⟩ : ByteArray) ++ strOfNums [c])] rfl rfl (World.news_of_block (Blk.newAt _ [.string ((⟨#[92]⟩ : ByteArray) ++ strOfNums [c])] 9 (by simp))) (by intro u hu; simp at hu; subst hu; rfl) (by decide) (by unfold maxLen; omega) (by omega) (by simp; have := (onto_keeps V u2).size; have := HSz.out; omega) _ rfl ?_; intro g cap w5 hown hgrow hat hlt)
  have HO1 : Hid (w5.ownsRow (n + 1) 9 1 (.slice (some ⟨g, 0, none⟩) 1 cap) 1 ([[92, u]].map sv)) := by
    have h := hown
    have e : (⟨#[92]⟩ : ByteArray) ++ strOfNums [c] = ⟨#[92, u]⟩ := str_ext (by rw [str_append, nums_list, ← HU.out]; simp)
    rw [e] at h
    exact h
  have HG : Hid (g < w5.heap.size) := hlt
  obtain ⟨u5, rfl⟩ : ∃ u, w5 = onto V u := ⟨w5, (onto_of (keeps_grown (((onto_keeps V u2).alloc _).alloc _) hgrow (fun k hk => by cases hk))).symm⟩
  have HO0 := HO1
  clear hown hgrow hat hlt HO1
  go_wp2_with fail
  generalize hV2 : World.alloc (onto V u5) (.cells #[.string ⟨#[110]⟩, .string ⟨#[114]⟩, .string ⟨#[116]⟩] 9) = V2
  obtain ⟨y, hy⟩ : ∃ y, (onto V u5).heap.size = y := ⟨_, rfl⟩
  rw [hy]
  have HO2 : Hid (V2.ownsRow (n + 1) 9 1 (.slice (some ⟨g, 0, none⟩) 1 cap) 1 ([[92, u]].map sv)) := by rw [← hV2]; exact HO0.out.alloc _
  have hS : Blk V2 y [.string ⟨#[110]⟩, .string ⟨#[114]⟩, .string ⟨#[116]⟩] 9 := by
    rw [← hV2]
    exact Blk.newAt _ [.string ⟨#[110]⟩, .string ⟨#[114]⟩, .string ⟨#[116]⟩] 9 hy.symm
  have HK2 : Hid (Keeps Non w V2) := by rw [← hV2]; exact (HK.out.then (onto_keeps V u5)).alloc _
  have HSz2 : Hid (n + 1 ≤ V2.heap.size) := by
    show _ ≤ _
    rw [← hV2]
    have := (onto_keeps V u5).size
    have := HSz.out
    simp
    omega
  have HNy : Hid (((.slice (some ⟨g, 0, none⟩) 1 cap) : Value).ownBlock ≠ some y) := by
    intro e
    have e2 : g = y := by simpa [Value.ownBlock] using e
    have := HG.out
    omega
  clear hV2 hy HO0 hl hlo HG
  have HS := hide hS
  clear hS
  go_loopw [5, 47] (fun v i wr => ∃ (k q : Nat) (Q : List (List UInt8)), k ≤ 3 ∧ i = .int .i64 k ∧ q ≤ 2 ∧ Hid (Q = r0 m u ++ r1 u k) ∧ Hid (wr.ownsRow (n + 1) 9 1 v q (Q.map sv)) ∧ Hid (Keeps Non w wr) ∧ Hid (Blk wr y [.string ⟨#[110]⟩, .string ⟨#[114]⟩, .string ⟨#[116]⟩] 9) ∧ Hid (v.ownBlock ≠ some y) ∧ Hid (n + 1 ≤ wr.heap.size)) (fun _ i _ => 3 - (intOf i).toNat)
  case atStart => exact ⟨0, 1, [[92, u]], by omega, rfl, by omega, by show _ = _; rw [hR.out]; simp [r1], HO2.out, HK2.out, HS.out, HNy.out, HSz2.out⟩
  case round =>
    clear HO2 HK2 HS HNy HSz2
    obtain ⟨k, q, Q, hk, rfl, hq, hQ, HO, HK2, HS, HNy, HSz2⟩ := hrel
    have ly := HS.out.lt
    have s0 : wr.cell? ⟨y, 0, none⟩ = some (.string ⟨#[110]⟩) := HS.out.cell 0
    have s1 : wr.cell? ⟨y, 1, none⟩ = some (.string ⟨#[114]⟩) := HS.out.cell 1
    have s2 : wr.cell? ⟨y, 2, none⟩ = some (.string ⟨#[116]⟩) := HS.out.cell 2
    have z0 : (((⟨#[10, 13, 9]⟩ : ByteArray)[0]'(by decide)).toNat : Int) = 10 := rfl
    have z1 : (((⟨#[10, 13, 9]⟩ : ByteArray)[1]'(by decide)).toNat : Int) = 13 := rfl
    have z2 : (((⟨#[10, 13, 9]⟩ : ByteArray)[2]'(by decide)).toNat : Int) = 9 := rfl
    have HqL : Hid (q = Q.length) := by
      have := HO.out.1
      simp at this
      exact this.symm
    obtain rfl | rfl | rfl | rfl : k = 0 ∨ k = 1 ∨ k = 2 ∨ k = 3 := by omega
    · have hc : ¬ c = 10 := by omega
      have hun : ¬ u = 10 := fun h => hc (by rw [← HU.out, h]; rfl)
      have HQn : Hid (Q = r0 m u ++ r1 u 1) := by
        show _ = _
        rw [hQ.out]
        congr 1
        simp only [r1, if_neg hun]
      have ec : (c == 10) = false := by simpa using hc
      clear hun
      go_wp2_with fail
      go_roundw
      case rel => exact ⟨1, q, Q, by omega, by go_num, hq, HQn.out, HO.out, HK2.out, HS.out, HNy.out, HSz2.out⟩
      case measure => simp [intOf]
    · have hc : ¬ c = 13 := by omega
      have hun : ¬ u = 13 := fun h => hc (by rw [← HU.out, h]; rfl)
      have HQn : Hid (Q = r0 m u ++ r1 u 2) := by
        show _ = _
        rw [hQ.out]
        congr 1
        simp only [r1, if_neg hun]
      have ec : (c == 13) = false := by simpa using hc
      clear hun
      go_wp2_with fail
      go_roundw
      case rel => exact ⟨2, q, Q, by omega, by go_num, hq, HQn.out, HO.out, HK2.out, HS.out, HNy.out, HSz2.out⟩
      case measure => simp [intOf]
    · have hc : ¬ c = 9 := by omega
      have hun : ¬ u = 9 := fun h => hc (by rw [← HU.out, h]; rfl)
      have HQn : Hid (Q = r0 m u ++ r1 u 3) := by
        show _ = _
        rw [hQ.out]
        congr 1
        simp only [r1, if_neg hun]
      have ec : (c == 9) = false := by simpa using hc
      clear hun
      go_wp2_with fail
      go_roundw
      case rel => exact ⟨3, q, Q, by omega, by go_num, hq, HQn.out, HO.out, HK2.out, HS.out, HNy.out, HSz2.out⟩
      case measure => simp [intOf]
    · have HQ3 : Hid (Q = r0 m u ++ r1 u 3) := hQ.out
      clear s0 s1 s2 ly HS HNy hQ kc
      go_wp2_with fail
      go_loopw [5, 8] (fun v i wr => ∃ (k q : Nat) (Q : List (List UInt8)), k ≤ 4 ∧ i = .int .i64 k ∧ q ≤ 6 ∧ Hid (Q = r0 m u ++ r1 u 3 ++ r2 u k) ∧ Hid (wr.ownsRow (n + 1) 9 1 v q (Q.map sv)) ∧ Hid (Keeps Non w wr) ∧ Hid (n + 1 ≤ wr.heap.size)) (fun _ i _ => 4 - (intOf i).toNat)
      case atStart => exact ⟨0, q, Q, by omega, rfl, by omega, by show _ = _; rw [HQ3.out]; simp [r2], HO.out, HK2.out, HSz2.out⟩
      case round =>
        clear HO HK2 HSz2 HQ3 HqL hq
        obtain ⟨k, q, Q, hk, rfl, hq, hQ, HO, HK2, HSz2⟩ := hrel
        have HqL : Hid (q = Q.length) := by
          have := HO.out.1
          simp at this
          exact this.symm
        have lu := u.toNat_lt
        obtain rfl | rfl | rfl | rfl | rfl : k = 0 ∨ k = 1 ∨ k = 2 ∨ k = 3 ∨ k = 4 := by omega
        · obtain ⟨p, hp⟩ : ∃ p : Int, ((hx (c / 16).toNat).toNat : Int) = p := ⟨_, rfl⟩
          obtain ⟨r, hr⟩ : ∃ r : Int, ((hx (c % 16).toNat).toNat : Int) = r := ⟨_, rfl⟩
          have H1 := hide (fun w => hexR_at (c / 16) false p w (by omega) (by omega) (by simpa using hp))
          have H2 := hide (fun w => hexR_at (c % 16) false r w (by omega) (by omega) (by simpa using hr))
          have HL : Hid (((⟨#[92, 120]⟩ : ByteArray) ++ strOfNums [p, r]).data.toList = [92, 120, hx (u.toNat / 16), hx (u.toNat % 16)]) := by
            show _ = _
            rw [str_append, nums_list, ← hp, ← hr, ← HU.out, show ((u.toNat : Int) / 16).toNat = u.toNat / 16 by omega, show ((u.toNat : Int) % 16).toNat = u.toNat % 16 by omega]
            simp
          have kc2 := fun w => conv2 w p r 5
          have hz : ¬ 9223372036854775807 < 2 + (strOfNums [p, r]).size := by
            rw [strOfNums_size]
            simp
          have HQn : Hid (Q ++ [[92, 120, hx (u.toNat / 16), hx (u.toNat % 16)]] = r0 m u ++ r1 u 3 ++ r2 u 1) := by
            show _ = _
            rw [hQ.out, List.append_assoc]
            rfl
          have hq1 : q + 1 ≤ 6 := by
            have h1 := congrArg List.length HQn.out
            have h2 := r0_len m u
            have h3 := r1_len u 3
            have h4 := HqL.out
            have h5 : (r2 u 1).length = 1 := rfl
            simp only [List.length_append, List.length_cons, List.length_nil, h5] at h1
            omega
          clear hp hr
          go_wp2_with fail
          refine (H1.out _).mono ?_
          rintro e _ ⟨rfl, rfl⟩
          go_wp2_with fail
          refine (H2.out _).mono ?_
          rintro e _ ⟨rfl, rfl⟩
          go_wp2_with (at_builtin; refine wpList_append_lies _ rfl _ _ 55 rfl (n + 1) 9 i9 (.string ⟨#[]⟩) 1 16 Try.underlying55 hi9 hz9 hs9 hb9 rfl (by decide) _ q _ rfl ((HO.out.alloc _).alloc _) ⟨wr.heap.size + 1, 0, none⟩ 1 1 [.string ((⟨#[92, 120]⟩ : ByteArray) ++ strOfNums [p, r])] rfl rfl (World.news_of_block (Blk.newAt _ [.string ((⟨#[92, 120]⟩ : ByteArray) ++ strOfNums [p, r])] 9 (by simp))) (by intro u hu; simp at hu; subst hu; rfl) (by decide) (by unfold maxLen; omega) (by omega) (by simp; have := HSz2.out; have := HSz.out; omega) _ rfl ?_; intro g cap w5 hown hgrow hat hlt)
          have HK5 : Hid (Keeps Non w w5) := keeps_grown ((HK2.out.alloc _).alloc _) hgrow (fun k hk => .inr (by have := own_ge9 HO.out k hk; have := HN.out; omega))
          have HZ5 : Hid (n + 1 ≤ w5.heap.size) := by
            show _ ≤ _
            have h1 := hgrow.size
            have h2 := HSz2.out
            simp at h1
            omega
          go_roundw
          case rel => (repeat apply Exists.intro); exact ⟨⟨1, q + 1, Q ++ [[92, 120, hx (u.toNat / 16), hx (u.toNat % 16)]], by omega, by go_num, by omega, HQn.out, owns_snoc (q := q) (q' := q + 1) hown HL.out, HK5.out, HZ5.out⟩, rfl⟩
          case measure => simp [intOf]
        · obtain ⟨p, hp⟩ : ∃ p : Int, ((hX (c / 16).toNat).toNat : Int) = p := ⟨_, rfl⟩
          obtain ⟨r, hr⟩ : ∃ r : Int, ((hx (c % 16).toNat).toNat : Int) = r := ⟨_, rfl⟩
          have H1 := hide (fun w => hexR_at (c / 16) true p w (by omega) (by omega) (by simpa using hp))
          have H2 := hide (fun w => hexR_at (c % 16) false r w (by omega) (by omega) (by simpa using hr))
          have HL : Hid (((⟨#[92, 120]⟩ : ByteArray) ++ strOfNums [p, r]).data.toList = [92, 120, hX (u.toNat / 16), hx (u.toNat % 16)]) := by
            show _ = _
            rw [str_append, nums_list, ← hp, ← hr, ← HU.out, show ((u.toNat : Int) / 16).toNat = u.toNat / 16 by omega, show ((u.toNat : Int) % 16).toNat = u.toNat % 16 by omega]
            simp
          have kc2 := fun w => conv2 w p r 5
          have hz : ¬ 9223372036854775807 < 2 + (strOfNums [p, r]).size := by
            rw [strOfNums_size]
            simp
          have HQn : Hid (Q ++ [[92, 120, hX (u.toNat / 16), hx (u.toNat % 16)]] = r0 m u ++ r1 u 3 ++ r2 u 2) := by
            show _ = _
            rw [hQ.out, List.append_assoc]
            rfl
          have hq1 : q + 1 ≤ 6 := by
            have h1 := congrArg List.length HQn.out
            have h2 := r0_len m u
            have h3 := r1_len u 3
            have h4 := HqL.out
            have h5 : (r2 u 2).length = 2 := rfl
            simp only [List.length_append, List.length_cons, List.length_nil, h5] at h1
            omega
          clear hp hr
          go_wp2_with fail
          refine (H1.out _).mono ?_
          rintro e _ ⟨rfl, rfl⟩
          go_wp2_with fail
          refine (H2.out _).mono ?_
          rintro e _ ⟨rfl, rfl⟩
          go_wp2_with (at_builtin; refine wpList_append_lies _ rfl _ _ 55 rfl (n + 1) 9 i9 (.string ⟨#[]⟩) 1 16 Try.underlying55 hi9 hz9 hs9 hb9 rfl (by decide) _ q _ rfl ((HO.out.alloc _).alloc _) ⟨wr.heap.size + 1, 0, none⟩ 1 1 [.string ((⟨#[92, 120]⟩ : ByteArray) ++ strOfNums [p, r])] rfl rfl (World.news_of_block (Blk.newAt _ [.string ((⟨#[92, 120]⟩ : ByteArray) ++ strOfNums [p, r])] 9 (by simp))) (by intro u hu; simp at hu; subst hu; rfl) (by decide) (by unfold maxLen; omega) (by omega) (by simp; have := HSz2.out; have := HSz.out; omega) _ rfl ?_; intro g cap w5 hown hgrow hat hlt)
          have HK5 : Hid (Keeps Non w w5) := keeps_grown ((HK2.out.alloc _).alloc _) hgrow (fun k hk => .inr (by have := own_ge9 HO.out k hk; have := HN.out; omega))
          have HZ5 : Hid (n + 1 ≤ w5.heap.size) := by
            show _ ≤ _
            have h1 := hgrow.size
            have h2 := HSz2.out
            simp at h1
            omega
          go_roundw
          case rel => (repeat apply Exists.intro); exact ⟨⟨2, q + 1, Q ++ [[92, 120, hX (u.toNat / 16), hx (u.toNat % 16)]], by omega, by go_num, by omega, HQn.out, owns_snoc (q := q) (q' := q + 1) hown HL.out, HK5.out, HZ5.out⟩, rfl⟩
          case measure => simp [intOf]
        · obtain ⟨p, hp⟩ : ∃ p : Int, ((hx (c / 16).toNat).toNat : Int) = p := ⟨_, rfl⟩
          obtain ⟨r, hr⟩ : ∃ r : Int, ((hX (c % 16).toNat).toNat : Int) = r := ⟨_, rfl⟩
          have H1 := hide (fun w => hexR_at (c / 16) false p w (by omega) (by omega) (by simpa using hp))
          have H2 := hide (fun w => hexR_at (c % 16) true r w (by omega) (by omega) (by simpa using hr))
          have HL : Hid (((⟨#[92, 120]⟩ : ByteArray) ++ strOfNums [p, r]).data.toList = [92, 120, hx (u.toNat / 16), hX (u.toNat % 16)]) := by
            show _ = _
            rw [str_append, nums_list, ← hp, ← hr, ← HU.out, show ((u.toNat : Int) / 16).toNat = u.toNat / 16 by omega, show ((u.toNat : Int) % 16).toNat = u.toNat % 16 by omega]
            simp
          have kc2 := fun w => conv2 w p r 5
          have hz : ¬ 9223372036854775807 < 2 + (strOfNums [p, r]).size := by
            rw [strOfNums_size]
            simp
          have HQn : Hid (Q ++ [[92, 120, hx (u.toNat / 16), hX (u.toNat % 16)]] = r0 m u ++ r1 u 3 ++ r2 u 3) := by
            show _ = _
            rw [hQ.out, List.append_assoc]
            rfl
          have hq1 : q + 1 ≤ 6 := by
            have h1 := congrArg List.length HQn.out
            have h2 := r0_len m u
            have h3 := r1_len u 3
            have h4 := HqL.out
            have h5 : (r2 u 3).length = 3 := rfl
            simp only [List.length_append, List.length_cons, List.length_nil, h5] at h1
            omega
          clear hp hr
          go_wp2_with fail
          refine (H1.out _).mono ?_
          rintro e _ ⟨rfl, rfl⟩
          go_wp2_with fail
          refine (H2.out _).mono ?_
          rintro e _ ⟨rfl, rfl⟩
          go_wp2_with (at_builtin; refine wpList_append_lies _ rfl _ _ 55 rfl (n + 1) 9 i9 (.string ⟨#[]⟩) 1 16 Try.underlying55 hi9 hz9 hs9 hb9 rfl (by decide) _ q _ rfl ((HO.out.alloc _).alloc _) ⟨wr.heap.size + 1, 0, none⟩ 1 1 [.string ((⟨#[92, 120]⟩ : ByteArray) ++ strOfNums [p, r])] rfl rfl (World.news_of_block (Blk.newAt _ [.string ((⟨#[92, 120]⟩ : ByteArray) ++ strOfNums [p, r])] 9 (by simp))) (by intro u hu; simp at hu; subst hu; rfl) (by decide) (by unfold maxLen; omega) (by omega) (by simp; have := HSz2.out; have := HSz.out; omega) _ rfl ?_; intro g cap w5 hown hgrow hat hlt)
          have HK5 : Hid (Keeps Non w w5) := keeps_grown ((HK2.out.alloc _).alloc _) hgrow (fun k hk => .inr (by have := own_ge9 HO.out k hk; have := HN.out; omega))
          have HZ5 : Hid (n + 1 ≤ w5.heap.size) := by
            show _ ≤ _
            have h1 := hgrow.size
            have h2 := HSz2.out
            simp at h1
            omega
          go_roundw
          case rel => (repeat apply Exists.intro); exact ⟨⟨3, q + 1, Q ++ [[92, 120, hx (u.toNat / 16), hX (u.toNat % 16)]], by omega, by go_num, by omega, HQn.out, owns_snoc (q := q) (q' := q + 1) hown HL.out, HK5.out, HZ5.out⟩, rfl⟩
          case measure => simp [intOf]
        · obtain ⟨p, hp⟩ : ∃ p : Int, ((hX (c / 16).toNat).toNat : Int) = p := ⟨_, rfl⟩
          obtain ⟨r, hr⟩ : ∃ r : Int, ((hX (c % 16).toNat).toNat : Int) = r := ⟨_, rfl⟩
          have H1 := hide (fun w => hexR_at (c / 16) true p w (by omega) (by omega) (by simpa using hp))
          have H2 := hide (fun w => hexR_at (c % 16) true r w (by omega) (by omega) (by simpa using hr))
          have HL : Hid (((⟨#[92, 120]⟩ : ByteArray) ++ strOfNums [p, r]).data.toList = [92, 120, hX (u.toNat / 16), hX (u.toNat % 16)]) := by
            show _ = _
            rw [str_append, nums_list, ← hp, ← hr, ← HU.out, show ((u.toNat : Int) / 16).toNat = u.toNat / 16 by omega, show ((u.toNat : Int) % 16).toNat = u.toNat % 16 by omega]
            simp
          have kc2 := fun w => conv2 w p r 5
          have hz : ¬ 9223372036854775807 < 2 + (strOfNums [p, r]).size := by
            rw [strOfNums_size]
            simp
          have HQn : Hid (Q ++ [[92, 120, hX (u.toNat / 16), hX (u.toNat % 16)]] = r0 m u ++ r1 u 3 ++ r2 u 4) := by
            show _ = _
            rw [hQ.out, List.append_assoc]
            rfl
          have hq1 : q + 1 ≤ 6 := by
            have h1 := congrArg List.length HQn.out
            have h2 := r0_len m u
            have h3 := r1_len u 3
            have h4 := HqL.out
            have h5 : (r2 u 4).length = 4 := rfl
            simp only [List.length_append, List.length_cons, List.length_nil, h5] at h1
            omega
          clear hp hr
          go_wp2_with fail
          refine (H1.out _).mono ?_
          rintro e _ ⟨rfl, rfl⟩
          go_wp2_with fail
          refine (H2.out _).mono ?_
          rintro e _ ⟨rfl, rfl⟩
          go_wp2_with (at_builtin; refine wpList_append_lies _ rfl _ _ 55 rfl (n + 1) 9 i9 (.string ⟨#[]⟩) 1 16 Try.underlying55 hi9 hz9 hs9 hb9 rfl (by decide) _ q _ rfl ((HO.out.alloc _).alloc _) ⟨wr.heap.size + 1, 0, none⟩ 1 1 [.string ((⟨#[92, 120]⟩ : ByteArray) ++ strOfNums [p, r])] rfl rfl (World.news_of_block (Blk.newAt _ [.string ((⟨#[92, 120]⟩ : ByteArray) ++ strOfNums [p, r])] 9 (by simp))) (by intro u hu; simp at hu; subst hu; rfl) (by decide) (by unfold maxLen; omega) (by omega) (by simp; have := HSz2.out; have := HSz.out; omega) _ rfl ?_; intro g cap w5 hown hgrow hat hlt)
          have HK5 : Hid (Keeps Non w w5) := keeps_grown ((HK2.out.alloc _).alloc _) hgrow (fun k hk => .inr (by have := own_ge9 HO.out k hk; have := HN.out; omega))
          have HZ5 : Hid (n + 1 ≤ w5.heap.size) := by
            show _ ≤ _
            have h1 := hgrow.size
            have h2 := HSz2.out
            simp at h1
            omega
          go_roundw
          case rel => (repeat apply Exists.intro); exact ⟨⟨4, q + 1, Q ++ [[92, 120, hX (u.toNat / 16), hX (u.toNat % 16)]], by omega, by go_num, by omega, HQn.out, owns_snoc (q := q) (q' := q + 1) hown HL.out, HK5.out, HZ5.out⟩, rfl⟩
          case measure => simp [intOf]
        · go_wp2_with fail
          go_ret
          have e : Q = fm m u := hQ.out
          rw [← e]
          exact retS_of HO.out HK2.out
end Go.Proofs.Ytoogopcaieodoaa
