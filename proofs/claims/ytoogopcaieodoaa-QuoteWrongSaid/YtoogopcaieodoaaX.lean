/-
  Or; the walk over QuoteWrong. No condition.
-/
import Derived.Test.YtoogopcaieodoaaV
import Derived.Test.YtoogopcaieodoaaU
import Derived.Deep.DeepCutAuto
namespace Go.Proofs.Ytoogopcaieodoaa
open Go.RowKit Go.Shelf
attribute [local go_sem] onto_cell onto_frozen
set_option maxRecDepth 100000 in
theorem or_any (a b : Mk) (w : World) :
    Calls Try.prog 23 #[.agg #[.int .u64 a.w0, .int .u64 a.w1, .int .u64 a.w2, .int .u64 a.w3], .agg #[.int .u64 b.w0, .int .u64 b.w1, .int .u64 b.w2, .int .u64 b.w3]] w fun e w' =>
      (∃ m : Mk, e = .returned (.agg #[.int .u64 m.w0, .int .u64 m.w1, .int .u64 m.w2, .int .u64 m.w3])) ∧ Keeps Non w w' := by
  go_enter Try.func23, Try.ntmps23
  go_wp2_with fail
  refine (eachOr_any a b _).mono ?_
  rintro e w2 ⟨⟨m, rfl⟩, hk⟩
  have HK := hide (((((Keeps.refl Non w).alloc (.cells #[.int .u64 a.w0, .int .u64 a.w1, .int .u64 a.w2, .int .u64 a.w3] 24)).alloc (.cells #[.int .u64 b.w0, .int .u64 b.w1, .int .u64 b.w2, .int .u64 b.w3] 24)).alloc (.cells #[.int .u64 0, .int .u64 0, .int .u64 0, .int .u64 0] 24)).then hk)
  have hR := (Blk.newAt ((w.alloc (.cells #[.int .u64 a.w0, .int .u64 a.w1, .int .u64 a.w2, .int .u64 a.w3] 24)).alloc (.cells #[.int .u64 b.w0, .int .u64 b.w1, .int .u64 b.w2, .int .u64 b.w3] 24)) (wl ⟨0, 0, 0, 0⟩) 24 (n := w.heap.size + 2) (by simp)).keeps hk (fun x => x)
  have HR := hide hR
  clear hk hR
  have lr := HR.out.lt
  have r0 : w2.cell? ⟨w.heap.size + 2, 0, none⟩ = some (.int .u64 0) := HR.out.cell 0
  have r1 : w2.cell? ⟨w.heap.size + 2, 1, none⟩ = some (.int .u64 0) := HR.out.cell 1
  have r2 : w2.cell? ⟨w.heap.size + 2, 2, none⟩ = some (.int .u64 0) := HR.out.cell 2
  have r3 : w2.cell? ⟨w.heap.size + 2, 3, none⟩ = some (.int .u64 0) := HR.out.cell 3
  have g0 := HR.out.free 0 none
  have g1 := HR.out.free 1 none
  have g2 := HR.out.free 2 none
  have g3 := HR.out.free 3 none
  go_wp2_with fail
  refine bodyPost_ret (v := .agg #[.int .u64 m.w0, .int .u64 m.w1, .int .u64 m.w2, .int .u64 m.w3]) (by simp [results, Try.results23, go_sem, r0, r1, r2, r3]) rfl ⟨⟨m, rfl⟩, ?_⟩
  have hle : w.heap.size ≤ w.heap.size + 2 := by omega
  exact (((HK.out.set (.inr hle) _).set (.inr hle) _).set (.inr hle) _).set (.inr hle) _
theorem can_l (m : Mk) (s : ByteArray) (v : Value) (w : World) (hs : s.size ≤ 1000000) (hr : (rds m s.data.toList).1.length ≤ 1000000) (h : unqT (formsL m (rds m s.data.toList).1, (rds m s.data.toList).2.1, (rds m s.data.toList).2.2) = v) :
    Calls Try.prog 15 #[.string s, .agg #[.int .u64 m.w0, .int .u64 m.w1, .int .u64 m.w2, .int .u64 m.w3]] w fun e w' => e = .returned v ∧ Keeps Non w w' := by
  subst h
  exact canonical_any m s w hs hr
/-- What is the form of no byte, whatever stands behind it. -/
def Bad (m : Mk) (l : List UInt8) : Prop := 0 < l.length ∧ l.length ≤ 4 ∧ (∀ t, rdB m (l ++ t) = (0, 0, 20)) ∧ (∀ t, rdB qm (l ++ t) = (0, 0, 20)) ∧ l[0]? ≠ some 34
theorem bad_letter (m : Mk) (t : List UInt8) : rdB m (92 :: 113 :: t) = (0, 0, 20) := by
  have := isMk_low m 113 (by decide) (by decide)
  simp [rdB, rdE, this]
theorem bad_digit (m : Mk) (t : List UInt8) : rdB m (92 :: 48 :: t) = (0, 0, 20) := by
  have : isMk m 48 = false := by
    cases e : isMk m 48 with
    | false => rfl
    | true =>
      have := (isMk_letter m 48 e).2.2.2
      cases this
  simp [rdB, rdE, this]
theorem bad_0 (m : Mk) : Bad m [92, 113] := ⟨by decide, by decide, bad_letter m, bad_letter qm, by decide⟩
theorem bad_1 (m : Mk) : Bad m [92, 120, 103, 48] := ⟨by decide, by decide, fun _ => rfl, fun _ => rfl, by decide⟩
theorem bad_2 (m : Mk) : Bad m [92, 120, 48, 103] := ⟨by decide, by decide, fun _ => rfl, fun _ => rfl, by decide⟩
theorem bad_3 (m : Mk) (h : isMk m 32 = false) : Bad m [92, 32] := ⟨by decide, by decide, fun t => by
  show rdB m (92 :: 32 :: t) = _
  simp [rdB, rdE, h], fun _ => rfl, by decide⟩
theorem bad_4 (m : Mk) : Bad m [0] := ⟨by decide, by decide, fun _ => rfl, fun _ => rfl, by decide⟩
theorem bad_5 (m : Mk) : Bad m [255] := ⟨by decide, by decide, fun _ => rfl, fun _ => rfl, by decide⟩
theorem bad_6 (m : Mk) : Bad m [10] := ⟨by decide, by decide, fun _ => rfl, fun _ => rfl, by decide⟩
theorem bad_7 (m : Mk) : Bad m [92, 48] := ⟨by decide, by decide, bad_digit m, bad_digit qm, by decide⟩
theorem unq_wrong (B z : List UInt8) (hz : 0 < z.length) (h34 : z[0]? ≠ some 34) (h : rdB qm z = (0, 0, 20)) : unq (34 :: (formsL qm B ++ z)) = ([], 1 + ((formsL qm B).length : Int), 20) := by
  obtain ⟨g, hg, e⟩ := unqF_forms B ((formsL qm B ++ z).length + 1) 1 [] z (by simp)
  simp only [unq]
  rw [if_pos (by decide), e]
  obtain ⟨g, rfl⟩ : ∃ g', g = g' + 1 := ⟨g - 1, by omega⟩
  cases z with
  | nil => simp at hz
  | cons a b =>
    simp only [unqF]
    rw [if_neg (by
      intro ha
      apply h34
      have := (u8_int a 34).1 ha
      rw [this]
      rfl), h]
    simp
set_option maxRecDepth 100000 in
set_option maxHeartbeats 40000000 in
theorem law_wrong (a0 a1 : ByteArray) (m0 : Mk) (a3 : Int) (h30 : 0 ≤ a3) (h31 : a3 ≤ 255) (w : World) :
    Calls Try.prog 7 #[.string a0, .string a1, .agg #[.int .u64 m0.w0, .int .u64 m0.w1, .int .u64 m0.w2, .int .u64 m0.w3], .int .u8 a3] w fun e w' => e = .returned (.bool true) ∧ Keeps Non w w' := by
  go_enter Try.func7, Try.ntmps7
  go_wp2_with fail
  have HB := hide (Blk.new w (wl m0) 24)
  have HK := hide ((Keeps.refl Non w).alloc (.cells #[.int .u64 m0.w0, .int .u64 m0.w1, .int .u64 m0.w2, .int .u64 m0.w3] 24))
  obtain ⟨z, hz⟩ : ∃ z, w.heap.size = z := ⟨_, rfl⟩
  rw [hz] at HB ⊢
  have HZ := hide hz
  clear hz
  refine (awake_any _).mono ?_
  rintro e w3 ⟨rfl, hk⟩
  replace HB := hide (HB.out.keeps hk (fun x => x))
  replace HK := hide (HK.out.then hk)
  clear hk
  have lz := HB.out.lt
  have c0 : w3.cell? ⟨z, 0, none⟩ = some (.int .u64 m0.w0) := HB.out.cell 0
  have c1 : w3.cell? ⟨z, 1, none⟩ = some (.int .u64 m0.w1) := HB.out.cell 1
  have c2 : w3.cell? ⟨z, 2, none⟩ = some (.int .u64 m0.w2) := HB.out.cell 2
  have c3 : w3.cell? ⟨z, 3, none⟩ = some (.int .u64 m0.w3) := HB.out.cell 3
  have f0 := HB.out.free 0 none
  have f1 := HB.out.free 1 none
  have f2 := HB.out.free 2 none
  have f3 := HB.out.free 3 none
  go_upto_region 3 with fail
  go_cut [] from 27 to 30 (fun wx => ∃ m : Mk, Hid (Keeps Non w wx) ∧ Hid (Blk wx z (wl m) 24))
  case first =>
    go_region_with (first | (go_at_call 24; refine (of_q _ _ _ (Blk.new w3 [.int .u8 34] 5).drew).mono ?_; rintro e w4 ⟨rfl, hk4⟩; obtain ⟨u4, rfl⟩ : ∃ u, w4 = onto w3 u := ⟨w4, (onto_of ((((Keeps.refl Non w3).alloc _).drew).then hk4)).symm⟩) | (go_at_call 23; refine (or_any m0 qm _).mono ?_; rintro e w5 ⟨⟨m1, rfl⟩, hk5⟩; obtain ⟨u5, rfl⟩ : ∃ u, w5 = onto w3 u := ⟨w5, (onto_of ((onto_keeps _ _).then hk5)).symm⟩))
    all_goals
      go_wp2_with fail
      go_meet
      refine ⟨m1, ?_, ?_⟩
      · exact ((((HK.out.then (onto_keeps _ _)).set (b := z) (.inr (by have := HZ.out; omega)) _).set (b := z) (.inr (by have := HZ.out; omega)) _).set (b := z) (.inr (by have := HZ.out; omega)) _).set (b := z) (.inr (by have := HZ.out; omega)) _
      · exact ((((HB.out.keeps (onto_keeps _ _) (fun x => x)).store 0 _).store 1 _).store 2 _).store 3 _
  case rest =>
    clear c0 c1 c2 c3 f0 f1 f2 f3 lz
    obtain ⟨m, HK, HB⟩ := hcut
    have lz := HB.out.lt
    have c0 : wc.cell? ⟨z, 0, none⟩ = some (.int .u64 m.w0) := HB.out.cell 0
    have c1 : wc.cell? ⟨z, 1, none⟩ = some (.int .u64 m.w1) := HB.out.cell 1
    have c2 : wc.cell? ⟨z, 2, none⟩ = some (.int .u64 m.w2) := HB.out.cell 2
    have c3 : wc.cell? ⟨z, 3, none⟩ = some (.int .u64 m.w3) := HB.out.cell 3
    obtain ⟨p, hp⟩ : ∃ p, a0.extract 0 (min (a0.size : Int) 100).toNat = p := ⟨_, rfl⟩
    obtain ⟨x, hx⟩ : ∃ x, a1.extract 0 (min (a1.size : Int) 100).toNat = x := ⟨_, rfl⟩
    have sp : p.size ≤ 100 := by rw [← hp]; exact Nat.le_trans (cut_size _ _) (by omega)
    have sx : x.size ≤ 100 := by rw [← hx]; exact Nat.le_trans (cut_size _ _) (by omega)
    obtain ⟨A, hA⟩ := str_of (formsL m p.data.toList)
    obtain ⟨O, hO⟩ := str_of (formsL qm p.data.toList)
    have HA := hide hA
    have HO := hide hO
    have lA : A.size ≤ 4 * p.size := by
      have := formsL_length m p.data.toList
      rw [← hA] at this
      exact this
    have lO : O.size ≤ 4 * p.size := by
      have := formsL_length qm p.data.toList
      rw [← hO] at this
      exact this
    clear hA hO
    obtain ⟨bad, hget, hbad⟩ : ∃ bad : ByteArray, (#[.string ⟨#[92, 113]⟩, .string ⟨#[92, 120, 103, 48]⟩, .string ⟨#[92, 120, 48, 103]⟩, .string ⟨#[92, 32]⟩, .string ⟨#[0]⟩, .string ⟨#[255]⟩, .string ⟨#[10]⟩] : Array Value)[(a3 % 7).toNat]? = some (.string bad) ∧ (bad = ⟨#[92, 32]⟩ ∨ ((bad.toList == [92, 32]) = false ∧ Bad m bad.data.toList)) := by
      obtain h | h | h | h | h | h | h : (a3 % 7).toNat = 0 ∨ (a3 % 7).toNat = 1 ∨ (a3 % 7).toNat = 2 ∨ (a3 % 7).toNat = 3 ∨ (a3 % 7).toNat = 4 ∨ (a3 % 7).toNat = 5 ∨ (a3 % 7).toNat = 6 := by omega
      all_goals rw [h]
      · exact ⟨_, rfl, .inr ⟨by rw [Lib.toList_data]; decide, bad_0 m⟩⟩
      · exact ⟨_, rfl, .inr ⟨by rw [Lib.toList_data]; decide, bad_1 m⟩⟩
      · exact ⟨_, rfl, .inr ⟨by rw [Lib.toList_data]; decide, bad_2 m⟩⟩
      · exact ⟨_, rfl, .inl rfl⟩
      · exact ⟨_, rfl, .inr ⟨by rw [Lib.toList_data]; decide, bad_4 m⟩⟩
      · exact ⟨_, rfl, .inr ⟨by rw [Lib.toList_data]; decide, bad_5 m⟩⟩
      · exact ⟨_, rfl, .inr ⟨by rw [Lib.toList_data]; decide, bad_6 m⟩⟩
    have HBad := hide hbad
    clear hbad
    have Q1 := hide (fun w => bytes_l m p A w (by omega) HA.out)
    have Q2 := hide (fun w => bytes_l qm p O w (by omega) HO.out)
    go_wp2_with fail
    refine wp_region_onto (by kernel_rfl) (by kernel_rfl) ?_
    repeat (go_big_quiet_step (first | (go_at_call 18; exact onto_call (Q1.out _))))
    refine wpQuiet_nil ?_
    rintro _ ⟨u, rfl⟩
    go_upto_region 6 with fail
    generalize hV : World.alloc (onto wc u) (.cells #[.string ⟨#[92, 113]⟩, .string ⟨#[92, 120, 103, 48]⟩, .string ⟨#[92, 120, 48, 103]⟩, .string ⟨#[92, 32]⟩, .string ⟨#[0]⟩, .string ⟨#[255]⟩, .string ⟨#[10]⟩] 9) = V
    replace HK : Hid (Keeps Non w V) := by rw [← hV]; exact (HK.out.then (onto_keeps wc u)).alloc _
    replace HB : Hid (Blk V z (wl m) 24) := by rw [← hV]; exact (HB.out.keeps (onto_keeps wc u) (fun x => x)).alloc _
    clear hV c0 c1 c2 c3 lz hget
    have lz := HB.out.lt
    have c0 : V.cell? ⟨z, 0, none⟩ = some (.int .u64 m.w0) := HB.out.cell 0
    have c1 : V.cell? ⟨z, 1, none⟩ = some (.int .u64 m.w1) := HB.out.cell 1
    have c2 : V.cell? ⟨z, 2, none⟩ = some (.int .u64 m.w2) := HB.out.cell 2
    have c3 : V.cell? ⟨z, 3, none⟩ = some (.int .u64 m.w3) := HB.out.cell 3
    have Q3 := hide (fun w v h => counts_at m 32 v w (by decide) (by decide) h)
    rcases HBad.out with hb | ⟨hb, hB⟩
    · subst hb
      clear HBad
      cases hm : isMk m 32 with
      | true =>
        have HBd := hide (bad_7 m)
        have Q4 := hide (fun w => Q3.out w true hm)
        clear hm Q3
        go_wp2_with fail
        refine (Q4.out _).mono ?_
        rintro e w4 ⟨rfl, hk⟩
        obtain ⟨u, rfl⟩ : ∃ u, w4 = onto V u := ⟨w4, (onto_of hk).symm⟩
        clear hk
        go_wp2_with fail
        obtain ⟨q, hq⟩ : ∃ q : ByteArray, ⟨#[92, 48]⟩ = q := ⟨_, rfl⟩
        rw [hq]
        replace HBd : Hid (Bad m q.data.toList) := by rw [← hq]; exact HBd.out
        clear hq
        obtain ⟨S, hS⟩ : ∃ S, A ++ q ++ x = S := ⟨_, rfl⟩
        rw [hS]
        have lq1 : 0 < q.size := HBd.out.1
        have lq2 : q.size ≤ 4 := HBd.out.2.1
        have HSl : Hid (S.data.toList = formsL m p.data.toList ++ (q.data.toList ++ x.data.toList)) := by show _ = _; rw [← hS, str_append, str_append, HA.out, List.append_assoc]
        have HSz : S.size = A.size + q.size + x.size := by rw [← hS, ByteArray.size_append, ByteArray.size_append]
        have lS : S.size ≤ 504 := by omega
        have lAS : (A.size : Int) ≤ (S.size : Int) := by omega
        have hrd : rds m S.data.toList = ([], (A.size : Int), 20) := by
          rw [HSl.out, rds_wrong m _ _ (by rw [List.length_append]; exact Nat.lt_of_lt_of_le lq1 (Nat.le_add_right _ _)) (by rw [HBd.out.2.2.1]; decide), ← HA.out]
          rfl
        have R1 := hide (fun w => rds_l m S (.tuple #[.string ⟨#[]⟩, .int .i64 A.size, .int .i64 20]) w (by omega) (by rw [hrd]; rfl))
        have R2 := hide (fun w => can_l m S (.tuple #[.string ⟨#[]⟩, .int .i64 A.size, .int .i64 20]) w (by omega) (by rw [hrd]; exact Nat.zero_le _) (by rw [hrd]; rfl))
        have R3 := hide (fun w => rb_l m (S.extract A.size S.size) (.tuple #[.int .u8 0, .int .i64 0, .int .i64 20]) w (by
          have e1 : (S.extract A.size S.size).data.toList = q.data.toList ++ x.data.toList := by
            rw [Lib.extract_data, HSl.out]
            have e2 : A.size = (formsL m p.data.toList).length := by rw [← HA.out]; rfl
            rw [e2, List.drop_left, List.take_of_length_le]
            rw [List.length_append]
            have e3 : q.data.toList.length = q.size := rfl
            have e4 : x.data.toList.length = x.size := rfl
            omega
          rw [e1, HBd.out.2.2.1]
          rfl))
        have R4 := hide (fun w => aw_unq (⟨#[34]⟩ ++ O ++ q ++ x) (.tuple #[.string ⟨#[]⟩, .int .i64 (1 + O.size), .int .i64 20]) w (by
          rw [ByteArray.size_append, ByteArray.size_append, ByteArray.size_append]
          show 1 + O.size + q.size + x.size ≤ _
          omega) (by
          have e1 : (⟨#[34]⟩ ++ O ++ q ++ x : ByteArray).data.toList = 34 :: (formsL qm p.data.toList ++ (q.data.toList ++ x.data.toList)) := by
            rw [str_append, str_append, str_append, HO.out]
            simp
          have e2 : (q.data.toList ++ x.data.toList)[0]? = q.data.toList[0]? := List.getElem?_append_left HBd.out.1
          rw [e1, unq_wrong _ _ (by rw [List.length_append]; exact Nat.lt_of_lt_of_le lq1 (Nat.le_add_right _ _)) (by rw [e2]; exact HBd.out.2.2.2.2) (HBd.out.2.2.2.1 _), ← HO.out]
          rfl))
        clear HSz hS hrd
        have hnil : ((⟨#[]⟩ : ByteArray) ++ ⟨#[]⟩ ++ ⟨#[]⟩).toList = [] := by rw [Lib.toList_data, str_append, str_append]; rfl
        refine (onto_call (R1.out _)).mono ?_
        rintro e _ ⟨rfl, u, rfl⟩
        go_wp2_with fail
        refine (onto_call (R2.out _)).mono ?_
        rintro e _ ⟨rfl, u, rfl⟩
        go_wp2_with fail
        refine wp_region_onto2 (by kernel_rfl) (by kernel_rfl) ?_
        repeat (go_big_quiet_step (first | (go_at_call 20; exact onto_call (R3.out _))))
        refine wpQuiet_nil ?_
        rintro _ ⟨u, rfl⟩
        go_upto_region 12 with fail
        go_cut [21] from 82 to 89 (fun s21 wx => s21 = .string O ∧ ∃ u, wx = onto V u)
        case first =>
          go_region_with (first | (go_at_call 24; refine (of_q _ _ _ (Blk.new (onto V u) [.int .u8 34] 5).drew).mono ?_; rintro e w4 ⟨rfl, hk4⟩; obtain ⟨u4, rfl⟩ : ∃ u, w4 = onto V u := ⟨w4, (onto_of ((((onto_keeps V u).alloc _).drew).then hk4)).symm⟩) | (go_at_call 18; refine (onto_call (Q2.out _)).mono ?_; rintro e _ ⟨rfl, u5, rfl⟩))
          all_goals (go_wp2_with fail; go_meet; exact ⟨rfl, _, rfl⟩)
        case rest =>
          obtain ⟨rfl, u, rfl⟩ := hcut
          go_wp2_with fail
          refine (onto_call (R4.out _)).mono ?_
          rintro e _ ⟨rfl, u, rfl⟩
          go_wp2_with fail
          go_ret
          exact ⟨rfl, HK.out.then (onto_keeps V u)⟩
      | false =>
        have HBd := hide (bad_3 m hm)
        have Q4 := hide (fun w => Q3.out w false hm)
        clear hm Q3
        go_wp2_with fail
        refine (Q4.out _).mono ?_
        rintro e w4 ⟨rfl, hk⟩
        obtain ⟨u, rfl⟩ : ∃ u, w4 = onto V u := ⟨w4, (onto_of hk).symm⟩
        clear hk
        go_wp2_with fail
        obtain ⟨q, hq⟩ : ∃ q : ByteArray, ⟨#[92, 32]⟩ = q := ⟨_, rfl⟩
        rw [hq]
        replace HBd : Hid (Bad m q.data.toList) := by rw [← hq]; exact HBd.out
        clear hq
        obtain ⟨S, hS⟩ : ∃ S, A ++ q ++ x = S := ⟨_, rfl⟩
        rw [hS]
        have lq1 : 0 < q.size := HBd.out.1
        have lq2 : q.size ≤ 4 := HBd.out.2.1
        have HSl : Hid (S.data.toList = formsL m p.data.toList ++ (q.data.toList ++ x.data.toList)) := by show _ = _; rw [← hS, str_append, str_append, HA.out, List.append_assoc]
        have HSz : S.size = A.size + q.size + x.size := by rw [← hS, ByteArray.size_append, ByteArray.size_append]
        have lS : S.size ≤ 504 := by omega
        have lAS : (A.size : Int) ≤ (S.size : Int) := by omega
        have hrd : rds m S.data.toList = ([], (A.size : Int), 20) := by
          rw [HSl.out, rds_wrong m _ _ (by rw [List.length_append]; exact Nat.lt_of_lt_of_le lq1 (Nat.le_add_right _ _)) (by rw [HBd.out.2.2.1]; decide), ← HA.out]
          rfl
        have R1 := hide (fun w => rds_l m S (.tuple #[.string ⟨#[]⟩, .int .i64 A.size, .int .i64 20]) w (by omega) (by rw [hrd]; rfl))
        have R2 := hide (fun w => can_l m S (.tuple #[.string ⟨#[]⟩, .int .i64 A.size, .int .i64 20]) w (by omega) (by rw [hrd]; exact Nat.zero_le _) (by rw [hrd]; rfl))
        have R3 := hide (fun w => rb_l m (S.extract A.size S.size) (.tuple #[.int .u8 0, .int .i64 0, .int .i64 20]) w (by
          have e1 : (S.extract A.size S.size).data.toList = q.data.toList ++ x.data.toList := by
            rw [Lib.extract_data, HSl.out]
            have e2 : A.size = (formsL m p.data.toList).length := by rw [← HA.out]; rfl
            rw [e2, List.drop_left, List.take_of_length_le]
            rw [List.length_append]
            have e3 : q.data.toList.length = q.size := rfl
            have e4 : x.data.toList.length = x.size := rfl
            omega
          rw [e1, HBd.out.2.2.1]
          rfl))
        have R4 := hide (fun w => aw_unq (⟨#[34]⟩ ++ O ++ q ++ x) (.tuple #[.string ⟨#[]⟩, .int .i64 (1 + O.size), .int .i64 20]) w (by
          rw [ByteArray.size_append, ByteArray.size_append, ByteArray.size_append]
          show 1 + O.size + q.size + x.size ≤ _
          omega) (by
          have e1 : (⟨#[34]⟩ ++ O ++ q ++ x : ByteArray).data.toList = 34 :: (formsL qm p.data.toList ++ (q.data.toList ++ x.data.toList)) := by
            rw [str_append, str_append, str_append, HO.out]
            simp
          have e2 : (q.data.toList ++ x.data.toList)[0]? = q.data.toList[0]? := List.getElem?_append_left HBd.out.1
          rw [e1, unq_wrong _ _ (by rw [List.length_append]; exact Nat.lt_of_lt_of_le lq1 (Nat.le_add_right _ _)) (by rw [e2]; exact HBd.out.2.2.2.2) (HBd.out.2.2.2.1 _), ← HO.out]
          rfl))
        clear HSz hS hrd
        have hnil : ((⟨#[]⟩ : ByteArray) ++ ⟨#[]⟩ ++ ⟨#[]⟩).toList = [] := by rw [Lib.toList_data, str_append, str_append]; rfl
        refine (onto_call (R1.out _)).mono ?_
        rintro e _ ⟨rfl, u, rfl⟩
        go_wp2_with fail
        refine (onto_call (R2.out _)).mono ?_
        rintro e _ ⟨rfl, u, rfl⟩
        go_wp2_with fail
        refine wp_region_onto2 (by kernel_rfl) (by kernel_rfl) ?_
        repeat (go_big_quiet_step (first | (go_at_call 20; exact onto_call (R3.out _))))
        refine wpQuiet_nil ?_
        rintro _ ⟨u, rfl⟩
        go_upto_region 12 with fail
        go_cut [21] from 82 to 89 (fun s21 wx => s21 = .string O ∧ ∃ u, wx = onto V u)
        case first =>
          go_region_with (first | (go_at_call 24; refine (of_q _ _ _ (Blk.new (onto V u) [.int .u8 34] 5).drew).mono ?_; rintro e w4 ⟨rfl, hk4⟩; obtain ⟨u4, rfl⟩ : ∃ u, w4 = onto V u := ⟨w4, (onto_of ((((onto_keeps V u).alloc _).drew).then hk4)).symm⟩) | (go_at_call 18; refine (onto_call (Q2.out _)).mono ?_; rintro e _ ⟨rfl, u5, rfl⟩))
          all_goals (go_wp2_with fail; go_meet; exact ⟨rfl, _, rfl⟩)
        case rest =>
          obtain ⟨rfl, u, rfl⟩ := hcut
          go_wp2_with fail
          refine (onto_call (R4.out _)).mono ?_
          rintro e _ ⟨rfl, u, rfl⟩
          go_wp2_with fail
          go_ret
          exact ⟨rfl, HK.out.then (onto_keeps V u)⟩
    · have HBd := hide hB
      clear hB HBad Q3
      have HU : Hid (∃ u, V = onto V u) := ⟨V, (onto_of (Keeps.refl Non V)).symm⟩
      have lb : 0 < bad.size := HBd.out.1
      have lb2 : bad.size ≤ 4 := HBd.out.2.1
      go_wp2_with fail
      obtain ⟨u, hu⟩ := HU.out
      rw [hu]
      clear hu
      obtain ⟨q, hq⟩ : ∃ q : ByteArray, bad = q := ⟨_, rfl⟩
      rw [hq]
      replace HBd : Hid (Bad m q.data.toList) := by rw [← hq]; exact HBd.out
      clear hq
      obtain ⟨S, hS⟩ : ∃ S, A ++ q ++ x = S := ⟨_, rfl⟩
      rw [hS]
      have lq1 : 0 < q.size := HBd.out.1
      have lq2 : q.size ≤ 4 := HBd.out.2.1
      have HSl : Hid (S.data.toList = formsL m p.data.toList ++ (q.data.toList ++ x.data.toList)) := by show _ = _; rw [← hS, str_append, str_append, HA.out, List.append_assoc]
      have HSz : S.size = A.size + q.size + x.size := by rw [← hS, ByteArray.size_append, ByteArray.size_append]
      have lS : S.size ≤ 504 := by omega
      have lAS : (A.size : Int) ≤ (S.size : Int) := by omega
      have hrd : rds m S.data.toList = ([], (A.size : Int), 20) := by
        rw [HSl.out, rds_wrong m _ _ (by rw [List.length_append]; exact Nat.lt_of_lt_of_le lq1 (Nat.le_add_right _ _)) (by rw [HBd.out.2.2.1]; decide), ← HA.out]
        rfl
      have R1 := hide (fun w => rds_l m S (.tuple #[.string ⟨#[]⟩, .int .i64 A.size, .int .i64 20]) w (by omega) (by rw [hrd]; rfl))
      have R2 := hide (fun w => can_l m S (.tuple #[.string ⟨#[]⟩, .int .i64 A.size, .int .i64 20]) w (by omega) (by rw [hrd]; exact Nat.zero_le _) (by rw [hrd]; rfl))
      have R3 := hide (fun w => rb_l m (S.extract A.size S.size) (.tuple #[.int .u8 0, .int .i64 0, .int .i64 20]) w (by
        have e1 : (S.extract A.size S.size).data.toList = q.data.toList ++ x.data.toList := by
          rw [Lib.extract_data, HSl.out]
          have e2 : A.size = (formsL m p.data.toList).length := by rw [← HA.out]; rfl
          rw [e2, List.drop_left, List.take_of_length_le]
          rw [List.length_append]
          have e3 : q.data.toList.length = q.size := rfl
          have e4 : x.data.toList.length = x.size := rfl
          omega
        rw [e1, HBd.out.2.2.1]
        rfl))
      have R4 := hide (fun w => aw_unq (⟨#[34]⟩ ++ O ++ q ++ x) (.tuple #[.string ⟨#[]⟩, .int .i64 (1 + O.size), .int .i64 20]) w (by
        rw [ByteArray.size_append, ByteArray.size_append, ByteArray.size_append]
        show 1 + O.size + q.size + x.size ≤ _
        omega) (by
        have e1 : (⟨#[34]⟩ ++ O ++ q ++ x : ByteArray).data.toList = 34 :: (formsL qm p.data.toList ++ (q.data.toList ++ x.data.toList)) := by
          rw [str_append, str_append, str_append, HO.out]
          simp
        have e2 : (q.data.toList ++ x.data.toList)[0]? = q.data.toList[0]? := List.getElem?_append_left HBd.out.1
        rw [e1, unq_wrong _ _ (by rw [List.length_append]; exact Nat.lt_of_lt_of_le lq1 (Nat.le_add_right _ _)) (by rw [e2]; exact HBd.out.2.2.2.2) (HBd.out.2.2.2.1 _), ← HO.out]
        rfl))
      clear HSz hS hrd
      have hnil : ((⟨#[]⟩ : ByteArray) ++ ⟨#[]⟩ ++ ⟨#[]⟩).toList = [] := by rw [Lib.toList_data, str_append, str_append]; rfl
      refine (onto_call (R1.out _)).mono ?_
      rintro e _ ⟨rfl, u, rfl⟩
      go_wp2_with fail
      refine (onto_call (R2.out _)).mono ?_
      rintro e _ ⟨rfl, u, rfl⟩
      go_wp2_with fail
      refine wp_region_onto2 (by kernel_rfl) (by kernel_rfl) ?_
      repeat (go_big_quiet_step (first | (go_at_call 20; exact onto_call (R3.out _))))
      refine wpQuiet_nil ?_
      rintro _ ⟨u, rfl⟩
      go_upto_region 12 with fail
      go_cut [21] from 82 to 89 (fun s21 wx => s21 = .string O ∧ ∃ u, wx = onto V u)
      case first =>
        go_region_with (first | (go_at_call 24; refine (of_q _ _ _ (Blk.new (onto V u) [.int .u8 34] 5).drew).mono ?_; rintro e w4 ⟨rfl, hk4⟩; obtain ⟨u4, rfl⟩ : ∃ u, w4 = onto V u := ⟨w4, (onto_of ((((onto_keeps V u).alloc _).drew).then hk4)).symm⟩) | (go_at_call 18; refine (onto_call (Q2.out _)).mono ?_; rintro e _ ⟨rfl, u5, rfl⟩))
        all_goals (go_wp2_with fail; go_meet; exact ⟨rfl, _, rfl⟩)
      case rest =>
        obtain ⟨rfl, u, rfl⟩ := hcut
        go_wp2_with fail
        refine (onto_call (R4.out _)).mono ?_
        rintro e _ ⟨rfl, u, rfl⟩
        go_wp2_with fail
        go_ret
        exact ⟨rfl, HK.out.then (onto_keeps V u)⟩
end Go.Proofs.Ytoogopcaieodoaa
