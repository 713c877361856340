/-
  The walk over QuoteCanonical. No condition.
-/
import Derived.Test.YtoogopcaieodoaaY
namespace Go.Proofs.Ytoogopcaieodoaa
open Go.RowKit Go.Shelf
attribute [local go_sem] onto_cell onto_frozen
theorem wr8 (n : Int) : IntKind.u8.wrap n = n % 256 := by simp [IntKind.wrap, IntKind.bits, IntKind.signed]
theorem ways_next {m : Mk} {a : ByteArray} {k : Nat} {L : List (UInt8 × List UInt8)} {x : UInt8 × List UInt8} {o : ByteArray} {y : Nat} {w : World} (hk : k < a.size) (hL : L.map (·.1) = a.data.toList.take k ∧ ∀ x ∈ L, Way m x)
    (hx : Way m x) (h1 : x.1 = a[k]) (ho : o.data.toList = x.2) (hI : Lib.IsBuilder 36 5 y y (Lib.byteCells (L.flatMap (·.2)) ++ Lib.strCells o) w) :
    ((L ++ [x]).map (·.1) = a.data.toList.take (k + 1) ∧ ∀ e ∈ L ++ [x], Way m e) ∧ Lib.IsBuilder 36 5 y y (Lib.byteCells ((L ++ [x]).flatMap (·.2))) w := by
  refine ⟨⟨?_, ?_⟩, ?_⟩
  · have hk' : k < a.data.toList.length := hk
    rw [List.map_append, hL.1, List.take_succ_eq_append_getElem hk']
    simp only [List.map_cons, List.map_nil, h1]
    rfl
  · intro e he
    rcases List.mem_append.1 he with h | h
    · exact hL.2 e h
    · rw [List.mem_singleton.1 h]
      exact hx
  · have e : Lib.byteCells ((L ++ [x]).flatMap (·.2)) = Lib.byteCells (L.flatMap (·.2)) ++ Lib.strCells o := by
      rw [List.flatMap_append]
      simp [Lib.byteCells, Lib.strCells, ho]
    rw [e]
    exact hI
set_option maxRecDepth 100000 in
set_option maxHeartbeats 40000000 in
theorem law_canonical (a0 : ByteArray) (a1 : Option Addr) (n1 cap1 : Nat) (zs : List Int) (m : Mk) (w : World) (hy : Byts w a1 n1 zs) :
    Calls Try.prog 5 #[.string a0, .slice a1 n1 cap1, .agg #[.int .u64 m.w0, .int .u64 m.w1, .int .u64 m.w2, .int .u64 m.w3]] w fun e w' => e = .returned (.bool true) ∧ Keeps Non w w' := by
  have HY := hide hy
  clear hy
  go_enter Try.func5, Try.ntmps5
  go_wp2_with fail
  have HB := hide (Blk.new w (wl m) 24)
  have HK := hide ((Keeps.refl Non w).alloc (.cells #[.int .u64 m.w0, .int .u64 m.w1, .int .u64 m.w2, .int .u64 m.w3] 24))
  obtain ⟨z, hz⟩ : ∃ z, w.heap.size = z := ⟨_, rfl⟩
  rw [hz] at HB ⊢
  have HZ := hide hz
  clear hz
  refine (awake_any _).mono ?_
  rintro e w3 ⟨rfl, hk⟩
  replace HB := hide (HB.out.keeps hk (fun x => x))
  replace HK := hide (HK.out.then hk)
  replace HY := hide (HY.out.non HK.out)
  clear hk
  obtain ⟨a, ha⟩ : ∃ a, a0.extract 0 (min (a0.size : Int) 100).toNat = a := ⟨_, rfl⟩
  have sa : a.size ≤ 100 := by rw [← ha]; exact Nat.le_trans (cut_size _ _) (by omega)
  have HF := hide (Lib.fresh_isBuilder 36 5 w3)
  go_wp2_with fail
  obtain ⟨n, hn⟩ : ∃ n, a.size = n := ⟨_, rfl⟩
  obtain ⟨y, hy⟩ : ∃ y, w3.heap.size = y := ⟨_, rfl⟩
  rw [hy] at HF ⊢
  have HN := hide hn
  have HYy := hide hy
  clear hn hy ha
  go_loopw [26] (fun i wr => ∃ (k : Nat) (L : List (UInt8 × List UInt8)), k ≤ n ∧ i = .int .i64 k ∧ Hid (Below y w3 wr) ∧ Hid (L.map (·.1) = a.data.toList.take k ∧ ∀ x ∈ L, Way m x) ∧ Hid (Lib.IsBuilder 36 5 y y (Lib.byteCells (L.flatMap (·.2))) wr)) (fun i _ => n - (intOf i).toNat)
  case atStart => exact ⟨0, [], by omega, rfl, (Below.refl _ _).alloc (by have := HYy.out; omega) _, ⟨rfl, by simp⟩, HF.out⟩
  case round =>
    clear HF
    obtain ⟨k, L, hk, rfl, hB, hL, hI⟩ := hrel
    have HK3 : Hid (Keeps Non w3 wr) := keeps_of_below (by rw [HYy.out]; exact hB.out)
    have hbm := HB.out.keeps HK3.out (fun x => x)
    have lz := hbm.lt
    have c0 : wr.cell? ⟨z, 0, none⟩ = some (.int .u64 m.w0) := hbm.cell 0
    have c1 : wr.cell? ⟨z, 1, none⟩ = some (.int .u64 m.w1) := hbm.cell 1
    have c2 : wr.cell? ⟨z, 2, none⟩ = some (.int .u64 m.w2) := hbm.cell 2
    have c3 : wr.cell? ⟨z, 3, none⟩ = some (.int .u64 m.w3) := hbm.cell 3
    clear hbm
    by_cases hlt : k < n
    · have hk' : k < a.size := by rw [HN.out]; exact hlt
      obtain ⟨c, hc⟩ : ∃ c : Int, (a[k].toNat : Int) = c := ⟨_, rfl⟩
      have b0 : 0 ≤ c := by rw [← hc]; exact (u8_bd _).1
      have b1 : c ≤ 255 := by rw [← hc]; exact (u8_bd _).2
      obtain ⟨o, ho⟩ := str_of (formB m a[k])
      have HO := hide ho
      have R1 := hide (fun w => byte_l m a[k] c o w hc HO.out)
      clear ho
      have HW : Hid (∀ w2, Keeps Non wr w2 → ∀ o : ByteArray, o.size ≤ 4 → Calls Try.prog 13 #[.pointer (some ⟨y, 0, none⟩), .string o] w2 fun e w5 => e = .returned (.tuple #[.int .i64 o.size, .nilIface]) ∧
          Lib.IsBuilder 36 5 y y (Lib.byteCells (L.flatMap (·.2)) ++ Lib.strCells o) w5 ∧ Below y w3 w5) := by
        intro w2 hk2 o ho
        have h1 := (ways_le m L hL.out.2).2
        have h2 : L.length = k := by
          have h3 := congrArg List.length hL.out.1
          have h4 : a.data.toList.length = a.size := rfl
          simp at h3
          omega
        refine (write_any y y _ o w2 (isB_keeps hI.out hk2) ?_ ?_).mono fun e w3 ⟨he, hi, hb⟩ => ⟨he, hi, (hB.out.trans (hk2.below.mono (by have := HK3.out.size; have := HYy.out; omega))).trans hb⟩
        · rw [Lib.byteCells_length]
          have := HN.out
          omega
        · have := hk2.size
          have := HK3.out.size
          have := HYy.out
          omega
      have y0 : (0 : Int) ≤ (k : Int) := by omega
      have y1 : (k : Int) < (a.size : Int) := by omega
      by_cases hn0 : n1 = 0
      · subst hn0
        go_wp2_with (first | (go_at_call 14; refine (R1.out _).mono ?_; rintro e w4 ⟨rfl, hk4⟩) | (go_at_call 13; refine (HW.out _ hk4 _ (by have := formB_le m a[k]; rw [← HO.out] at this; exact this)).mono ?_; rintro e w5 ⟨rfl, hi5, hb5⟩))
        have HX := hide (ways_next hk' hL.out (way_form m a[k]) rfl HO.out hi5)
        go_roundw
        case rel => exact ⟨k + 1, L ++ [(a[k], formB m a[k])], by omega, by go_num, hb5, HX.out.1, HX.out.2⟩
        case measure => simp [intOf]; omega
      · obtain ⟨bq, off, rfl, hbq, hcell⟩ := HY.out.at (by omega)
        obtain ⟨j, hj⟩ : ∃ j : Nat, (k : Int) % (n1 : Int) = (j : Int) := ⟨((k : Int) % (n1 : Int)).toNat, (Int.toNat_of_nonneg (Int.emod_nonneg _ (by omega))).symm⟩
        have hjl : j < n1 := by
          have := Int.emod_lt_of_pos (k : Int) (show (0 : Int) < (n1 : Int) by omega)
          omega
        obtain ⟨q, hq⟩ : ∃ q : Int, zs.getD j 0 = q := ⟨_, rfl⟩
        have q0 : 0 ≤ q := by rw [← hq]; exact (HY.out.bd j).1
        have q1 : q ≤ 255 := by rw [← hq]; exact (HY.out.bd j).2
        have cq : wr.cell? ⟨bq, off + j, none⟩ = some (.int .u8 q) := by
          rw [HK3.out.cell (p := ⟨bq, off + j, none⟩) hbq (fun x => x), hcell j hjl, hq]
        have lq : bq < wr.heap.size := Nat.lt_of_lt_of_le hbq HK3.out.size
        have g0 : (0 : Int) < (n1 : Int) := by omega
        have g1 : (0 : Int) ≤ (j : Int) := by omega
        have g2 : (j : Int) < (n1 : Int) := by omega
        clear hcell hq
        have hand := and15 c b0 b1
        by_cases hw0 : q % 4 = 0
        · go_wp2_with (first | (go_at_call 14; refine (R1.out _).mono ?_; rintro e w4 ⟨rfl, hk4⟩) | (go_at_call 13; refine (HW.out _ hk4 _ (by have := formB_le m a[k]; rw [← HO.out] at this; exact this)).mono ?_; rintro e w5 ⟨rfl, hi5, hb5⟩))
          have HX := hide (ways_next hk' hL.out (way_form m a[k]) rfl HO.out hi5)
          go_roundw
          case rel => exact ⟨k + 1, L ++ [(a[k], formB m a[k])], by omega, by go_num, hb5, HX.out.1, HX.out.2⟩
          case measure => simp [intOf]; omega
        · by_cases hw1 : q % 4 = 1
          · obtain ⟨p, hp⟩ : ∃ p, (⟨#[48, 49, 50, 51, 52, 53, 54, 55, 56, 57, 97, 98, 99, 100, 101, 102]⟩ : ByteArray).extract (c / 16).toNat (c / 16 + 1).toNat = p := ⟨_, rfl⟩
            obtain ⟨r, hr⟩ : ∃ r, (⟨#[48, 49, 50, 51, 52, 53, 54, 55, 56, 57, 65, 66, 67, 68, 69, 70]⟩ : ByteArray).extract (c % 16).toNat (c % 16 + 1).toNat = r := ⟨_, rfl⟩
            have lp : p.data.toList = [hx (a[k].toNat / 16)] := by
              rw [← hp, show (c / 16).toNat = a[k].toNat / 16 by omega, show (c / 16 + 1).toNat = a[k].toNat / 16 + 1 by omega]
              exact hx_cut _ (by have := a[k].toNat_lt; omega)
            have lr : r.data.toList = [hX (a[k].toNat % 16)] := by
              rw [← hr, show (c % 16).toNat = a[k].toNat % 16 by omega, show (c % 16 + 1).toNat = a[k].toNat % 16 + 1 by omega]
              exact hX_cut _ (Nat.mod_lt _ (by decide))
            have sp : p.size = 1 := by
              show p.data.toList.length = 1
              rw [lp]
              rfl
            have sr : r.size = 1 := by
              show r.data.toList.length = 1
              rw [lr]
              rfl
            have HPR := hide (And.intro lp lr)
            clear lp lr
            have x1 : ¬ 9223372036854775807 < 2 + p.size := by omega
            have x2 : ¬ 9223372036854775807 < 2 + p.size + r.size := by omega
            have HSz : Hid ((⟨#[92, 120]⟩ ++ p ++ r : ByteArray).size ≤ 4) := by
              show _ ≤ _
              rw [ByteArray.size_append, ByteArray.size_append, sp, sr]
              decide
            have HDt : Hid ((⟨#[92, 120]⟩ ++ p ++ r : ByteArray).data.toList = [92, 120, hx (a[k].toNat / 16), hX (a[k].toNat % 16)]) := by
              show _ = _
              rw [str_append, str_append, HPR.out.1, HPR.out.2]
              rfl
            clear sp sr
            have t0 : 0 ≤ c / 16 := by omega
            have t1 : c / 16 ≤ c / 16 + 1 := by omega
            have t2 : c / 16 + 1 ≤ 16 := by omega
            have t3 : 0 ≤ c % 16 := by omega
            have t4 : c % 16 ≤ c % 16 + 1 := by omega
            have t5 : c % 16 + 1 ≤ 16 := by omega
            have t6 : IntKind.u8.wrap (c / 16 + 1) = c / 16 + 1 := by rw [wr8]; omega
            have t7 : IntKind.u8.wrap (c % 16 + 1) = c % 16 + 1 := by rw [wr8]; omega
            go_wp2_with fail
            go_region_with (first | (go_at_call 13; refine (HW.out _ (Keeps.refl Non wr).drew _ HSz.out).mono ?_; rintro e w5 ⟨rfl, hi5, hb5⟩))
            all_goals
              go_wp2_with fail
              have HX := hide (ways_next hk' hL.out (way_lo m a[k]) rfl HDt.out hi5)
              go_roundw
              case rel => exact ⟨k + 1, L ++ [_], by omega, by go_num, hb5, HX.out.1, HX.out.2⟩
              case measure => simp [intOf]; omega
          · obtain ⟨p, hp⟩ : ∃ p, (⟨#[48, 49, 50, 51, 52, 53, 54, 55, 56, 57, 65, 66, 67, 68, 69, 70]⟩ : ByteArray).extract (c / 16).toNat (c / 16 + 1).toNat = p := ⟨_, rfl⟩
            obtain ⟨r, hr⟩ : ∃ r, (⟨#[48, 49, 50, 51, 52, 53, 54, 55, 56, 57, 97, 98, 99, 100, 101, 102]⟩ : ByteArray).extract (c % 16).toNat (c % 16 + 1).toNat = r := ⟨_, rfl⟩
            have lp : p.data.toList = [hX (a[k].toNat / 16)] := by
              rw [← hp, show (c / 16).toNat = a[k].toNat / 16 by omega, show (c / 16 + 1).toNat = a[k].toNat / 16 + 1 by omega]
              exact hX_cut _ (by have := a[k].toNat_lt; omega)
            have lr : r.data.toList = [hx (a[k].toNat % 16)] := by
              rw [← hr, show (c % 16).toNat = a[k].toNat % 16 by omega, show (c % 16 + 1).toNat = a[k].toNat % 16 + 1 by omega]
              exact hx_cut _ (Nat.mod_lt _ (by decide))
            have sp : p.size = 1 := by
              show p.data.toList.length = 1
              rw [lp]
              rfl
            have sr : r.size = 1 := by
              show r.data.toList.length = 1
              rw [lr]
              rfl
            have HPR := hide (And.intro lp lr)
            clear lp lr
            have x1 : ¬ 9223372036854775807 < 2 + p.size := by omega
            have x2 : ¬ 9223372036854775807 < 2 + p.size + r.size := by omega
            have HSz : Hid ((⟨#[92, 120]⟩ ++ p ++ r : ByteArray).size ≤ 4) := by
              show _ ≤ _
              rw [ByteArray.size_append, ByteArray.size_append, sp, sr]
              decide
            have HDt : Hid ((⟨#[92, 120]⟩ ++ p ++ r : ByteArray).data.toList = [92, 120, hX (a[k].toNat / 16), hx (a[k].toNat % 16)]) := by
              show _ = _
              rw [str_append, str_append, HPR.out.1, HPR.out.2]
              rfl
            clear sp sr
            have t0 : 0 ≤ c / 16 := by omega
            have t1 : c / 16 ≤ c / 16 + 1 := by omega
            have t2 : c / 16 + 1 ≤ 16 := by omega
            have t3 : 0 ≤ c % 16 := by omega
            have t4 : c % 16 ≤ c % 16 + 1 := by omega
            have t5 : c % 16 + 1 ≤ 16 := by omega
            have t6 : IntKind.u8.wrap (c / 16 + 1) = c / 16 + 1 := by rw [wr8]; omega
            have t7 : IntKind.u8.wrap (c % 16 + 1) = c % 16 + 1 := by rw [wr8]; omega
            go_wp2_with fail
            go_region_with (first | (go_at_call 13; refine (HW.out _ (Keeps.refl Non wr).drew _ HSz.out).mono ?_; rintro e w5 ⟨rfl, hi5, hb5⟩))
            all_goals
              go_wp2_with fail
              have HX := hide (ways_next hk' hL.out (way_up m a[k]) rfl HDt.out hi5)
              go_roundw
              case rel => exact ⟨k + 1, L ++ [_], by omega, by go_num, hb5, HX.out.1, HX.out.2⟩
              case measure => simp [intOf]; omega
    · have hkn : k = n := by omega
      subst hkn
      have hLa : L.map (·.1) = a.data.toList := by
        rw [hL.out.1, List.take_of_length_le]
        rw [← HN.out]
        exact Nat.le_refl _
      obtain ⟨S, hS⟩ := str_of (L.flatMap (·.2))
      obtain ⟨T, hT⟩ := str_of (formsL m a.data.toList)
      have hle := ways_le m L hL.out.2
      rw [hLa, ← hT, ← hS] at hle
      have hLl : L.length = a.size := by
        have h3 := congrArg List.length hLa
        have h4 : a.data.toList.length = a.size := rfl
        simp at h3
        omega
      replace hle : T.size ≤ S.size ∧ S.size ≤ 4 * L.length := hle
      have lS : S.size ≤ 400 := by omega
      have lT : (T.size : Int) ≤ (S.size : Int) := by omega
      have hrS : rds m S.data.toList = (a.data.toList, (S.size : Int), 0) := by
        rw [hS, rds_says m L (fun x hx => (hL.out.2 x hx).1), hLa, ← hS]
        rfl
      have hrT : rds m T.data.toList = (a.data.toList, (T.size : Int), 0) := by
        rw [hT, rds_forms, ← hT]
        rfl
      have C1 := hide (fun w => can_m m S (.tuple #[.string T, .int .i64 S.size, .int .i64 0]) w (by omega) (by rw [hrS]; show a.data.toList.length ≤ _; have : a.data.toList.length = a.size := rfl; omega) (by rw [hrS, ← hT]; rfl))
      have C2 := hide (fun w => can_m m T (.tuple #[.string T, .int .i64 T.size, .int .i64 0]) w (by omega) (by rw [hrT]; show a.data.toList.length ≤ _; have : a.data.toList.length = a.size := rfl; omega) (by rw [hrT, ← hT]; rfl))
      have C3 := hide (fun w => bytes_l m a T w (by omega) hT)
      have HT16 : Hid (∀ w2, Keeps Non wr w2 → Calls Try.prog 16 #[.pointer (some ⟨y, 0, none⟩)] w2 fun e w5 => e = .returned (.string S) ∧ Lib.IsBuilderF 36 5 y y (Lib.byteCells (L.flatMap (·.2))) w5 ∧ Keeps Non w3 w5) := by
        intro w2 hk2
        have hS2 : S = ⟨(L.flatMap (·.2)).toArray⟩ := str_ext (by rw [hS])
        have hy2 : y ≤ w2.heap.size := by
          have := hk2.size
          have := HK3.out.size
          have := HYy.out
          omega
        refine (Try.Builder_String_any_f y y _ w2 (isBF_keeps (Lib.IsBuilderF.of hI.out) hk2) hy2).mono fun e w5 ⟨he, hf, hb⟩ => ⟨by rw [he, hS2], hf, ?_⟩
        exact (HK3.out.then hk2).thenBelow (hb.mono (by have := HYy.out; omega))
      have HLn : Hid ((Lib.byteCells (L.flatMap (·.2))).length = S.size) := by
        show _ = _
        rw [Lib.byteCells_length, ← hS]
        rfl
      have y9 : ¬ (k : Int) < (a.size : Int) := by have := HN.out; omega
      clear hS hT hle hLl hrS hrT hLa
      have lz3 := HB.out.lt
      have d0 : w3.cell? ⟨z, 0, none⟩ = some (.int .u64 m.w0) := HB.out.cell 0
      have d1 : w3.cell? ⟨z, 1, none⟩ = some (.int .u64 m.w1) := HB.out.cell 1
      have d2 : w3.cell? ⟨z, 2, none⟩ = some (.int .u64 m.w2) := HB.out.cell 2
      have d3 : w3.cell? ⟨z, 3, none⟩ = some (.int .u64 m.w3) := HB.out.cell 3
      go_upto_region 19 with fail
      go_cut [11, 12, 13] from 84 to 89 (fun s11 s12 s13 wx => s11 = .string T ∧ s12 = .int .i64 S.size ∧ s13 = .int .i64 0 ∧ Hid (Lib.IsBuilderF 36 5 y y (Lib.byteCells (L.flatMap (·.2))) wx) ∧ Hid (Keeps Non w3 wx))
      case first =>
        go_region_with (first | (go_at_call 16; refine (HT16.out _ (Keeps.refl Non wr).drew).mono ?_; rintro e w4 ⟨rfl, hf4, hk4⟩; obtain ⟨u4, rfl⟩ : ∃ u, w4 = onto w3 u := ⟨w4, (onto_of hk4).symm⟩) | (go_at_call 15; refine (C1.out _).mono ?_; rintro e w5 ⟨rfl, hk5⟩))
        all_goals (go_wp2_with fail; go_meet; exact ⟨rfl, rfl, rfl, isBF_keeps hf4 hk5, hk4.then hk5⟩)
      case rest =>
        obtain ⟨rfl, rfl, rfl, HF, HK4⟩ := hcut
        clear c0 c1 c2 c3 d0 d1 d2 d3 y9
        have hbm := HB.out.keeps HK4.out (fun x => x)
        have lz := hbm.lt
        have c0 : wc.cell? ⟨z, 0, none⟩ = some (.int .u64 m.w0) := hbm.cell 0
        have c1 : wc.cell? ⟨z, 1, none⟩ = some (.int .u64 m.w1) := hbm.cell 1
        have c2 : wc.cell? ⟨z, 2, none⟩ = some (.int .u64 m.w2) := hbm.cell 2
        have c3 : wc.cell? ⟨z, 3, none⟩ = some (.int .u64 m.w3) := hbm.cell 3
        clear hbm
        have C4 : Hid (∀ u, Calls Try.prog 17 #[.pointer (some ⟨y, 0, none⟩)] (onto wc u) fun e w' => e = .returned (.int .i64 S.size) ∧ onto wc u = w') := by
          intro u
          refine (Try.Builder_Len_f y y _ _ (isBF_keeps HF.out (onto_keeps wc u))).mono fun e w' ⟨he, hw⟩ => ⟨by rw [he, HLn.out], hw.symm⟩
        go_wp2_with fail
        refine (C2.out _).mono ?_
        rintro e w4 ⟨rfl, hk⟩
        obtain ⟨u, rfl⟩ : ∃ u, w4 = onto wc u := ⟨w4, (onto_of hk).symm⟩
        clear hk
        go_wp2_with fail
        refine (C4.out _).mono ?_
        rintro e _ ⟨rfl, rfl⟩
        go_wp2_with fail
        refine (onto_call (C3.out _)).mono ?_
        rintro e _ ⟨rfl, u, rfl⟩
        go_wp2_with fail
        go_ret
        exact ⟨rfl, (HK.out.then HK4.out).then (onto_keeps wc u)⟩
end Go.Proofs.Ytoogopcaieodoaa
