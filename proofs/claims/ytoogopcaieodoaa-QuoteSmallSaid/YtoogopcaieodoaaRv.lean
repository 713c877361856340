/-
  The walk over QuoteSmall. No condition.
-/
import Derived.Test.YtoogopcaieodoaaRu
namespace Go.Proofs.Ytoogopcaieodoaa
open Go.RowKit Go.Shelf
attribute [local go_sem] onto_cell onto_frozen
set_option linter.unusedVariables false
theorem sm_of1 (b cap : Nat) (w : World) (h : Blk w b [.int .u8 47, .int .u8 42, .int .u8 34] 5) : Calls Try.prog 24 #[.slice (some ⟨b, 0, none⟩) 3 cap] w fun e w' => e = .returned (.agg #[.int .u64 145152714735616, .int .u64 0, .int .u64 0, .int .u64 0]) ∧ Keeps Non w w' :=
  (of_any b cap [47, 42, 34] w h (fun i hi => by
    have : i = 0 ∨ i = 1 ∨ i = 2 := by simp at hi; omega
    rcases this with rfl | rfl | rfl <;> decide) (by decide)).mono fun _ _ ⟨he, hk⟩ => ⟨he.trans (by kernel_rfl), hk⟩
theorem sm_of3 (b cap : Nat) (w : World) (h : Blk w b [.int .u8 110, .int .u8 120, .int .u8 48, .int .u8 10, .int .u8 200] 5) : Calls Try.prog 24 #[.slice (some ⟨b, 0, none⟩) 5 cap] w fun e w' => e = .returned (.agg #[.int .u64 281474976711680, .int .u64 72127962782105600, .int .u64 0, .int .u64 256]) ∧ Keeps Non w w' :=
  (of_any b cap [110, 120, 48, 10, 200] w h (fun i hi => by
    have : i = 0 ∨ i = 1 ∨ i = 2 ∨ i = 3 ∨ i = 4 := by simp at hi; omega
    rcases this with rfl | rfl | rfl | rfl | rfl <;> decide) (by decide)).mono fun _ _ ⟨he, hk⟩ => ⟨he.trans (by kernel_rfl), hk⟩
theorem tells_w (s : ByteArray) (c a b d e : Int) (w : World) (h0 : 0 ≤ c) (h1 : c ≤ 255) (hm : Fits ⟨a, b, d, e⟩) :
    Calls Try.prog 9 #[.string s, .int .u8 c, .agg #[.int .u64 a, .int .u64 b, .int .u64 d, .int .u64 e]] w fun e w' => e = .returned (.bool true) ∧ Keeps Non w w' := tells_any s c h0 h1 ⟨a, b, d, e⟩ hm w
def mc : List Value := [.int .u64 0, .int .u64 0, .int .u64 0, .int .u64 0, .int .u64 145152714735616, .int .u64 0, .int .u64 0, .int .u64 0, .int .u64 18446744073709551615, .int .u64 18446744073709551615, .int .u64 18446744073709551615, .int .u64 18446744073709551615, .int .u64 281474976711680, .int .u64 72127962782105600, .int .u64 0, .int .u64 256]
def sl : List Value := [.string ⟨#[]⟩, .string ⟨#[34]⟩, .string ⟨#[92]⟩, .string ⟨#[97]⟩, .string ⟨#[110]⟩, .string ⟨#[120]⟩, .string ⟨#[52, 49]⟩, .string ⟨#[47]⟩, .string ⟨#[255]⟩]
theorem sl_at (j : Nat) (h : j < 9) : ∃ P : ByteArray, sl[j]? = some (.string P) ∧ P.size ≤ 2 := by
  obtain rfl | rfl | rfl | rfl | rfl | rfl | rfl | rfl | rfl : j = 0 ∨ j = 1 ∨ j = 2 ∨ j = 3 ∨ j = 4 ∨ j = 5 ∨ j = 6 ∨ j = 7 ∨ j = 8 := by omega
  all_goals exact ⟨_, rfl, by decide⟩
theorem f0 : Fits ⟨0, 0, 0, 0⟩ := ⟨by decide, by decide, by decide, by decide⟩
theorem f1 : Fits ⟨145152714735616, 0, 0, 0⟩ := ⟨by decide, by decide, by decide, by decide⟩
theorem f2 : Fits ⟨18446744073709551615, 18446744073709551615, 18446744073709551615, 18446744073709551615⟩ := ⟨by decide, by decide, by decide, by decide⟩
theorem f3 : Fits ⟨281474976711680, 72127962782105600, 0, 256⟩ := ⟨by decide, by decide, by decide, by decide⟩
set_option maxRecDepth 100000 in
set_option maxHeartbeats 40000000 in
theorem law_small (w : World) :
    Calls Try.prog 8 #[] w fun e w' => e = .returned (.bool true) ∧ Keeps Non w w' := by
  go_enter Try.func8, Try.ntmps8
  go_wp2_with fail
  refine (sm_of1 _ _ _ (Blk.new w [.int .u8 47, .int .u8 42, .int .u8 34] 5)).mono ?_
  rintro e w2 ⟨rfl, hk2⟩
  have HK := hide (((Keeps.refl Non w).alloc _).then hk2)
  clear hk2
  go_wp2_with fail
  refine (all_any _).mono ?_
  rintro e w3 ⟨rfl, hk3⟩
  replace HK := hide (HK.out.then hk3)
  clear hk3
  go_wp2_with fail
  refine (sm_of3 _ _ _ (Blk.new w3 [.int .u8 110, .int .u8 120, .int .u8 48, .int .u8 10, .int .u8 200] 5)).mono ?_
  rintro e w4 ⟨rfl, hk4⟩
  replace HK := hide ((HK.out.alloc _).then hk4)
  clear hk4
  go_wp2_with fail
  generalize hV : World.alloc w4 _ = V
  obtain ⟨y, hy⟩ : ∃ y, w4.heap.size = y := ⟨_, rfl⟩
  have HB : Hid (Blk V y mc 24) := by
    rw [← hV]
    exact Blk.newAt w4 mc 24 hy.symm
  replace HK : Hid (Keeps Non w V) := by rw [← hV]; exact HK.out.alloc _
  rw [hy]
  clear hV hy
  go_loopw [16] (fun i wr => ∃ (k : Nat), k ≤ 256 ∧ i = .int .i64 k ∧ Hid (Keeps Non V wr)) (fun i _ => 256 - (intOf i).toNat)
  case atStart => exact ⟨0, by omega, rfl, Keeps.refl _ _⟩
  case round =>
    obtain ⟨k, hk, rfl, HKr⟩ := hrel
    by_cases hlt : k < 256
    · have hwr : IntKind.u8.wrap (k : Int) = (k : Int) := by rw [wrp8]; omega
      obtain ⟨B, hBb⟩ : ∃ B, strOfNums [(k : Int)] = B := ⟨_, rfl⟩
      have sB : B.size = 1 := by rw [← hBb, strOfNums_size]; rfl
      have kc := conv1 wr (k : Int) 5
      rw [hBb] at kc
      have b0 : 0 ≤ (k : Int) := by omega
      have b1 : (k : Int) ≤ 255 := by omega
      have b2 : (k : Int) < 256 := by omega
      have x1 : ¬ 9223372036854775807 < 1 + B.size := by omega
      have x2 : ¬ 9223372036854775807 < 3 + B.size := by omega
      have x3 : ¬ 9223372036854775807 < 3 + B.size + 1 := by omega
      have x4 : ¬ 9223372036854775807 < 2 + B.size := by omega
      have x5 : ¬ 9223372036854775807 < 2 + B.size + 1 := by omega
      have x6 : ¬ 9223372036854775807 < 1 + B.size + 1 := by omega
      have x7 : ¬ 9223372036854775807 < 2 + B.size + 2 := by omega
      clear hBb sB
      go_wp2_with fail
      go_loopw [25] (fun i wx => ∃ (j : Nat), j ≤ 4 ∧ i = .int .i64 j ∧ Hid (Keeps Non V wx)) (fun i _ => 4 - (intOf i).toNat)
      case atStart => exact ⟨0, by omega, rfl, HKr.out.alloc _⟩
      case round =>
        clear HKr
        obtain ⟨j, hj, rfl, HKr⟩ := hrel
        have HBr := hide (HB.out.keeps HKr.out (fun x => x))
        have ly := HBr.out.lt
        have m0 : wr.cell? ⟨y, 0, none⟩ = some (.int .u64 0) := HBr.out.cell 0
        have m1 : wr.cell? ⟨y, 1, none⟩ = some (.int .u64 0) := HBr.out.cell 1
        have m2 : wr.cell? ⟨y, 2, none⟩ = some (.int .u64 0) := HBr.out.cell 2
        have m3 : wr.cell? ⟨y, 3, none⟩ = some (.int .u64 0) := HBr.out.cell 3
        have m4 : wr.cell? ⟨y, 4, none⟩ = some (.int .u64 145152714735616) := HBr.out.cell 4
        have m5 : wr.cell? ⟨y, 5, none⟩ = some (.int .u64 0) := HBr.out.cell 5
        have m6 : wr.cell? ⟨y, 6, none⟩ = some (.int .u64 0) := HBr.out.cell 6
        have m7 : wr.cell? ⟨y, 7, none⟩ = some (.int .u64 0) := HBr.out.cell 7
        have m8 : wr.cell? ⟨y, 8, none⟩ = some (.int .u64 18446744073709551615) := HBr.out.cell 8
        have m9 : wr.cell? ⟨y, 9, none⟩ = some (.int .u64 18446744073709551615) := HBr.out.cell 9
        have m10 : wr.cell? ⟨y, 10, none⟩ = some (.int .u64 18446744073709551615) := HBr.out.cell 10
        have m11 : wr.cell? ⟨y, 11, none⟩ = some (.int .u64 18446744073709551615) := HBr.out.cell 11
        have m12 : wr.cell? ⟨y, 12, none⟩ = some (.int .u64 281474976711680) := HBr.out.cell 12
        have m13 : wr.cell? ⟨y, 13, none⟩ = some (.int .u64 72127962782105600) := HBr.out.cell 13
        have m14 : wr.cell? ⟨y, 14, none⟩ = some (.int .u64 0) := HBr.out.cell 14
        have m15 : wr.cell? ⟨y, 15, none⟩ = some (.int .u64 256) := HBr.out.cell 15
        obtain rfl | rfl | rfl | rfl | rfl : j = 0 ∨ j = 1 ∨ j = 2 ∨ j = 3 ∨ j = 4 := by omega
        · go_wp2_with fail
          obtain ⟨q, hq⟩ : ∃ q, wr.heap.size = q := ⟨_, rfl⟩
          obtain ⟨V3, hV3⟩ : ∃ V3, wr.alloc (.cells #[.int .u64 0, .int .u64 0, .int .u64 0, .int .u64 0] 24) = V3 := ⟨_, rfl⟩
          have HB3 : Blk V3 q (wl ⟨0, 0, 0, 0⟩) 24 := by rw [← hV3]; exact Blk.newAt wr (wl ⟨0, 0, 0, 0⟩) 24 hq.symm
          have HK3 : Hid (Keeps Non V V3) := by rw [← hV3]; exact HKr.out.alloc _
          rw [hV3, hq]
          clear hV3 hq ly m0 m1 m2 m3 m4 m5 m6 m7 m8 m9 m10 m11 m12 m13 m14 m15
          have l3 := HB3.lt
          have d0 : V3.cell? ⟨q, 0, none⟩ = some (.int .u64 0) := HB3.cell 0
          have d1 : V3.cell? ⟨q, 1, none⟩ = some (.int .u64 0) := HB3.cell 1
          have d2 : V3.cell? ⟨q, 2, none⟩ = some (.int .u64 0) := HB3.cell 2
          have d3 : V3.cell? ⟨q, 3, none⟩ = some (.int .u64 0) := HB3.cell 3
          clear HB3
          refine (tells_w _ _ _ _ _ _ _ b0 b1 f0).mono ?_
          rintro e w5 ⟨rfl, hk5⟩
          obtain ⟨u, rfl⟩ : ∃ u, w5 = onto V3 u := ⟨w5, (onto_of hk5).symm⟩
          clear hk5
          go_wp2_with fail
          refine (onto_call (tells_w _ _ _ _ _ _ _ b0 b1 f0)).mono ?_
          rintro e _ ⟨rfl, u, rfl⟩
          go_wp2_with fail
          refine (onto_call (tells_w _ _ _ _ _ _ _ b0 b1 f0)).mono ?_
          rintro e _ ⟨rfl, u, rfl⟩
          go_wp2_with fail
          refine (onto_call (tells_w _ _ _ _ _ _ _ b0 b1 f0)).mono ?_
          rintro e _ ⟨rfl, u, rfl⟩
          go_wp2_with fail
          refine (onto_call (tells_w _ _ _ _ _ _ _ b0 b1 f0)).mono ?_
          rintro e _ ⟨rfl, u, rfl⟩
          go_wp2_with fail
          refine (onto_call (tells_w _ _ _ _ _ _ _ b0 b1 f0)).mono ?_
          rintro e _ ⟨rfl, u, rfl⟩
          go_wp2_with fail
          go_roundw
          case rel => exact ⟨1, by omega, by go_num, HK3.out.then (onto_keeps V3 u)⟩
          case measure => simp [intOf]
        · go_wp2_with fail
          obtain ⟨q, hq⟩ : ∃ q, wr.heap.size = q := ⟨_, rfl⟩
          obtain ⟨V3, hV3⟩ : ∃ V3, wr.alloc (.cells #[.int .u64 145152714735616, .int .u64 0, .int .u64 0, .int .u64 0] 24) = V3 := ⟨_, rfl⟩
          have HB3 : Blk V3 q (wl ⟨145152714735616, 0, 0, 0⟩) 24 := by rw [← hV3]; exact Blk.newAt wr (wl ⟨145152714735616, 0, 0, 0⟩) 24 hq.symm
          have HK3 : Hid (Keeps Non V V3) := by rw [← hV3]; exact HKr.out.alloc _
          rw [hV3, hq]
          clear hV3 hq ly m0 m1 m2 m3 m4 m5 m6 m7 m8 m9 m10 m11 m12 m13 m14 m15
          have l3 := HB3.lt
          have d0 : V3.cell? ⟨q, 0, none⟩ = some (.int .u64 145152714735616) := HB3.cell 0
          have d1 : V3.cell? ⟨q, 1, none⟩ = some (.int .u64 0) := HB3.cell 1
          have d2 : V3.cell? ⟨q, 2, none⟩ = some (.int .u64 0) := HB3.cell 2
          have d3 : V3.cell? ⟨q, 3, none⟩ = some (.int .u64 0) := HB3.cell 3
          clear HB3
          refine (tells_w _ _ _ _ _ _ _ b0 b1 f1).mono ?_
          rintro e w5 ⟨rfl, hk5⟩
          obtain ⟨u, rfl⟩ : ∃ u, w5 = onto V3 u := ⟨w5, (onto_of hk5).symm⟩
          clear hk5
          go_wp2_with fail
          refine (onto_call (tells_w _ _ _ _ _ _ _ b0 b1 f1)).mono ?_
          rintro e _ ⟨rfl, u, rfl⟩
          go_wp2_with fail
          refine (onto_call (tells_w _ _ _ _ _ _ _ b0 b1 f1)).mono ?_
          rintro e _ ⟨rfl, u, rfl⟩
          go_wp2_with fail
          refine (onto_call (tells_w _ _ _ _ _ _ _ b0 b1 f1)).mono ?_
          rintro e _ ⟨rfl, u, rfl⟩
          go_wp2_with fail
          refine (onto_call (tells_w _ _ _ _ _ _ _ b0 b1 f1)).mono ?_
          rintro e _ ⟨rfl, u, rfl⟩
          go_wp2_with fail
          refine (onto_call (tells_w _ _ _ _ _ _ _ b0 b1 f1)).mono ?_
          rintro e _ ⟨rfl, u, rfl⟩
          go_wp2_with fail
          go_roundw
          case rel => exact ⟨2, by omega, by go_num, HK3.out.then (onto_keeps V3 u)⟩
          case measure => simp [intOf]
        · go_wp2_with fail
          obtain ⟨q, hq⟩ : ∃ q, wr.heap.size = q := ⟨_, rfl⟩
          obtain ⟨V3, hV3⟩ : ∃ V3, wr.alloc (.cells #[.int .u64 18446744073709551615, .int .u64 18446744073709551615, .int .u64 18446744073709551615, .int .u64 18446744073709551615] 24) = V3 := ⟨_, rfl⟩
          have HB3 : Blk V3 q (wl ⟨18446744073709551615, 18446744073709551615, 18446744073709551615, 18446744073709551615⟩) 24 := by rw [← hV3]; exact Blk.newAt wr (wl ⟨18446744073709551615, 18446744073709551615, 18446744073709551615, 18446744073709551615⟩) 24 hq.symm
          have HK3 : Hid (Keeps Non V V3) := by rw [← hV3]; exact HKr.out.alloc _
          rw [hV3, hq]
          clear hV3 hq ly m0 m1 m2 m3 m4 m5 m6 m7 m8 m9 m10 m11 m12 m13 m14 m15
          have l3 := HB3.lt
          have d0 : V3.cell? ⟨q, 0, none⟩ = some (.int .u64 18446744073709551615) := HB3.cell 0
          have d1 : V3.cell? ⟨q, 1, none⟩ = some (.int .u64 18446744073709551615) := HB3.cell 1
          have d2 : V3.cell? ⟨q, 2, none⟩ = some (.int .u64 18446744073709551615) := HB3.cell 2
          have d3 : V3.cell? ⟨q, 3, none⟩ = some (.int .u64 18446744073709551615) := HB3.cell 3
          clear HB3
          refine (tells_w _ _ _ _ _ _ _ b0 b1 f2).mono ?_
          rintro e w5 ⟨rfl, hk5⟩
          obtain ⟨u, rfl⟩ : ∃ u, w5 = onto V3 u := ⟨w5, (onto_of hk5).symm⟩
          clear hk5
          go_wp2_with fail
          refine (onto_call (tells_w _ _ _ _ _ _ _ b0 b1 f2)).mono ?_
          rintro e _ ⟨rfl, u, rfl⟩
          go_wp2_with fail
          refine (onto_call (tells_w _ _ _ _ _ _ _ b0 b1 f2)).mono ?_
          rintro e _ ⟨rfl, u, rfl⟩
          go_wp2_with fail
          refine (onto_call (tells_w _ _ _ _ _ _ _ b0 b1 f2)).mono ?_
          rintro e _ ⟨rfl, u, rfl⟩
          go_wp2_with fail
          refine (onto_call (tells_w _ _ _ _ _ _ _ b0 b1 f2)).mono ?_
          rintro e _ ⟨rfl, u, rfl⟩
          go_wp2_with fail
          refine (onto_call (tells_w _ _ _ _ _ _ _ b0 b1 f2)).mono ?_
          rintro e _ ⟨rfl, u, rfl⟩
          go_wp2_with fail
          go_roundw
          case rel => exact ⟨3, by omega, by go_num, HK3.out.then (onto_keeps V3 u)⟩
          case measure => simp [intOf]
        · go_wp2_with fail
          obtain ⟨q, hq⟩ : ∃ q, wr.heap.size = q := ⟨_, rfl⟩
          obtain ⟨V3, hV3⟩ : ∃ V3, wr.alloc (.cells #[.int .u64 281474976711680, .int .u64 72127962782105600, .int .u64 0, .int .u64 256] 24) = V3 := ⟨_, rfl⟩
          have HB3 : Blk V3 q (wl ⟨281474976711680, 72127962782105600, 0, 256⟩) 24 := by rw [← hV3]; exact Blk.newAt wr (wl ⟨281474976711680, 72127962782105600, 0, 256⟩) 24 hq.symm
          have HK3 : Hid (Keeps Non V V3) := by rw [← hV3]; exact HKr.out.alloc _
          rw [hV3, hq]
          clear hV3 hq ly m0 m1 m2 m3 m4 m5 m6 m7 m8 m9 m10 m11 m12 m13 m14 m15
          have l3 := HB3.lt
          have d0 : V3.cell? ⟨q, 0, none⟩ = some (.int .u64 281474976711680) := HB3.cell 0
          have d1 : V3.cell? ⟨q, 1, none⟩ = some (.int .u64 72127962782105600) := HB3.cell 1
          have d2 : V3.cell? ⟨q, 2, none⟩ = some (.int .u64 0) := HB3.cell 2
          have d3 : V3.cell? ⟨q, 3, none⟩ = some (.int .u64 256) := HB3.cell 3
          clear HB3
          refine (tells_w _ _ _ _ _ _ _ b0 b1 f3).mono ?_
          rintro e w5 ⟨rfl, hk5⟩
          obtain ⟨u, rfl⟩ : ∃ u, w5 = onto V3 u := ⟨w5, (onto_of hk5).symm⟩
          clear hk5
          go_wp2_with fail
          refine (onto_call (tells_w _ _ _ _ _ _ _ b0 b1 f3)).mono ?_
          rintro e _ ⟨rfl, u, rfl⟩
          go_wp2_with fail
          refine (onto_call (tells_w _ _ _ _ _ _ _ b0 b1 f3)).mono ?_
          rintro e _ ⟨rfl, u, rfl⟩
          go_wp2_with fail
          refine (onto_call (tells_w _ _ _ _ _ _ _ b0 b1 f3)).mono ?_
          rintro e _ ⟨rfl, u, rfl⟩
          go_wp2_with fail
          refine (onto_call (tells_w _ _ _ _ _ _ _ b0 b1 f3)).mono ?_
          rintro e _ ⟨rfl, u, rfl⟩
          go_wp2_with fail
          refine (onto_call (tells_w _ _ _ _ _ _ _ b0 b1 f3)).mono ?_
          rintro e _ ⟨rfl, u, rfl⟩
          go_wp2_with fail
          go_roundw
          case rel => exact ⟨4, by omega, by go_num, HK3.out.then (onto_keeps V3 u)⟩
          case measure => simp [intOf]
        · go_wp2_with fail
          go_roundw
          case rel => exact ⟨k + 1, by omega, by go_num, HKr.out⟩
          case measure => simp [intOf]; omega
    · have hk2 : k = 256 := by omega
      subst hk2
      go_wp2_with fail
      generalize hV : World.alloc wr _ = V9
      obtain ⟨ys, hys⟩ : ∃ ys, wr.heap.size = ys := ⟨_, rfl⟩
      have HS9 : Hid (Blk V9 ys sl 9) := by
        rw [← hV]
        exact Blk.newAt wr sl 9 hys.symm
      have HK9 : Hid (Keeps Non V V9) := by rw [← hV]; exact HKr.out.alloc _
      rw [hys]
      clear hV hys
      have HB9 := hide (HB.out.keeps HK9.out (fun x => x))
      have ly := HB9.out.lt
      have lys := HS9.out.lt
      have m0 : V9.cell? ⟨y, 0, none⟩ = some (.int .u64 0) := HB9.out.cell 0
      have m1 : V9.cell? ⟨y, 1, none⟩ = some (.int .u64 0) := HB9.out.cell 1
      have m2 : V9.cell? ⟨y, 2, none⟩ = some (.int .u64 0) := HB9.out.cell 2
      have m3 : V9.cell? ⟨y, 3, none⟩ = some (.int .u64 0) := HB9.out.cell 3
      have m4 : V9.cell? ⟨y, 4, none⟩ = some (.int .u64 145152714735616) := HB9.out.cell 4
      have m5 : V9.cell? ⟨y, 5, none⟩ = some (.int .u64 0) := HB9.out.cell 5
      have m6 : V9.cell? ⟨y, 6, none⟩ = some (.int .u64 0) := HB9.out.cell 6
      have m7 : V9.cell? ⟨y, 7, none⟩ = some (.int .u64 0) := HB9.out.cell 7
      have m8 : V9.cell? ⟨y, 8, none⟩ = some (.int .u64 18446744073709551615) := HB9.out.cell 8
      have m9 : V9.cell? ⟨y, 9, none⟩ = some (.int .u64 18446744073709551615) := HB9.out.cell 9
      have m10 : V9.cell? ⟨y, 10, none⟩ = some (.int .u64 18446744073709551615) := HB9.out.cell 10
      have m11 : V9.cell? ⟨y, 11, none⟩ = some (.int .u64 18446744073709551615) := HB9.out.cell 11
      have m12 : V9.cell? ⟨y, 12, none⟩ = some (.int .u64 281474976711680) := HB9.out.cell 12
      have m13 : V9.cell? ⟨y, 13, none⟩ = some (.int .u64 72127962782105600) := HB9.out.cell 13
      have m14 : V9.cell? ⟨y, 14, none⟩ = some (.int .u64 0) := HB9.out.cell 14
      have m15 : V9.cell? ⟨y, 15, none⟩ = some (.int .u64 256) := HB9.out.cell 15
      go_loopw [87] (fun i wr => ∃ (n : Nat) (u : World), n ≤ 6561 ∧ i = .int .i64 n ∧ wr = onto V9 u) (fun i _ => 6561 - (intOf i).toNat)
      case atStart => exact ⟨0, V9, by omega, rfl, (onto_of (Keeps.refl Non V9)).symm⟩
      case round =>
        obtain ⟨n, u, hn, rfl, rfl⟩ := hrel
        by_cases hnt : n < 6561
        · obtain ⟨j0, e0⟩ : ∃ j : Nat, (n : Int) % 9 = (j : Int) := ⟨n % 9, by omega⟩
          obtain ⟨j1, e1⟩ : ∃ j : Nat, (n : Int) / 9 % 9 = (j : Int) := ⟨n / 9 % 9, by omega⟩
          obtain ⟨j2, e2⟩ : ∃ j : Nat, (n : Int) / 81 % 9 = (j : Int) := ⟨n / 81 % 9, by omega⟩
          obtain ⟨j3, e3⟩ : ∃ j : Nat, (n : Int) / 729 = (j : Int) := ⟨n / 729, by omega⟩
          have l0 : j0 < 9 := by omega
          have l1 : j1 < 9 := by omega
          have l2 : j2 < 9 := by omega
          have l3 : j3 < 9 := by omega
          obtain ⟨P0, g0, z0⟩ := sl_at j0 l0
          have c0 : V9.cell? ⟨ys, j0, none⟩ = some (.string P0) := by rw [HS9.out.cell]; exact g0
          have p0 : (0 : Int) ≤ (j0 : Int) := by omega
          have q0 : (j0 : Int) < 9 := by omega
          obtain ⟨P1, g1, z1⟩ := sl_at j1 l1
          have c1 : V9.cell? ⟨ys, j1, none⟩ = some (.string P1) := by rw [HS9.out.cell]; exact g1
          have p1 : (0 : Int) ≤ (j1 : Int) := by omega
          have q1 : (j1 : Int) < 9 := by omega
          obtain ⟨P2, g2, z2⟩ := sl_at j2 l2
          have c2 : V9.cell? ⟨ys, j2, none⟩ = some (.string P2) := by rw [HS9.out.cell]; exact g2
          have p2 : (0 : Int) ≤ (j2 : Int) := by omega
          have q2 : (j2 : Int) < 9 := by omega
          obtain ⟨P3, g3, z3⟩ := sl_at j3 l3
          have c3 : V9.cell? ⟨ys, j3, none⟩ = some (.string P3) := by rw [HS9.out.cell]; exact g3
          have p3 : (0 : Int) ≤ (j3 : Int) := by omega
          have q3 : (j3 : Int) < 9 := by omega
          have x1 : ¬ 9223372036854775807 < P0.size + P1.size := by omega
          have x2 : ¬ 9223372036854775807 < P0.size + P1.size + P2.size := by omega
          have x3 : ¬ 9223372036854775807 < P0.size + P1.size + P2.size + P3.size := by omega
          clear g0 g1 g2 g3
          go_wp2_with fail
          refine wp_region_onto2 (by kernel_rfl) (by kernel_rfl) ?_
          repeat (go_big_quiet_step (fail))
          refine wpQuiet_nil ?_
          rintro _ ⟨u, rfl⟩
          obtain ⟨S, hS⟩ : ∃ S, P0 ++ P1 ++ P2 ++ P3 = S := ⟨_, rfl⟩
          have sS : S.size ≤ 8 := by
            rw [← hS, ByteArray.size_append, ByteArray.size_append, ByteArray.size_append]
            omega
          rw [hS]
          obtain ⟨c, hwr⟩ : ∃ c, IntKind.u8.wrap (n : Int) = c := ⟨_, rfl⟩
          have hcb : 0 ≤ c ∧ c ≤ 255 := by
            rw [← hwr, wrp8]
            omega
          obtain ⟨b0, b1⟩ := hcb
          have x4 : ¬ 9223372036854775807 < 1 + S.size := by omega
          obtain ⟨j4, e4⟩ : ∃ j : Nat, (n : Int) % 4 = (j : Int) := ⟨n % 4, by omega⟩
          have l4 : j4 < 4 := by omega
          clear hS sS e0 e1 e2 e3 l0 l1 l2 l3 c0 c1 c2 c3 p0 p1 p2 p3 q0 q1 q2 q3 x1 x2 x3 z0 z1 z2 z3
          obtain rfl | rfl | rfl | rfl : j4 = 0 ∨ j4 = 1 ∨ j4 = 2 ∨ j4 = 3 := by omega
          · go_wp2_with fail
            refine (onto_call (tells_w _ _ _ _ _ _ _ b0 b1 f0)).mono ?_
            rintro e _ ⟨rfl, u, rfl⟩
            go_wp2_with fail
            refine (onto_call (tells_w _ _ _ _ _ _ _ b0 b1 f1)).mono ?_
            rintro e _ ⟨rfl, u, rfl⟩
            go_wp2_with fail
            go_roundw
            case rel => (repeat apply Exists.intro); exact ⟨⟨n + 1, u, by omega, by go_num, rfl⟩, rfl⟩
            case measure => simp [intOf]; omega
          · go_wp2_with fail
            refine (onto_call (tells_w _ _ _ _ _ _ _ b0 b1 f1)).mono ?_
            rintro e _ ⟨rfl, u, rfl⟩
            go_wp2_with fail
            refine (onto_call (tells_w _ _ _ _ _ _ _ b0 b1 f1)).mono ?_
            rintro e _ ⟨rfl, u, rfl⟩
            go_wp2_with fail
            go_roundw
            case rel => (repeat apply Exists.intro); exact ⟨⟨n + 1, u, by omega, by go_num, rfl⟩, rfl⟩
            case measure => simp [intOf]; omega
          · go_wp2_with fail
            refine (onto_call (tells_w _ _ _ _ _ _ _ b0 b1 f2)).mono ?_
            rintro e _ ⟨rfl, u, rfl⟩
            go_wp2_with fail
            refine (onto_call (tells_w _ _ _ _ _ _ _ b0 b1 f1)).mono ?_
            rintro e _ ⟨rfl, u, rfl⟩
            go_wp2_with fail
            go_roundw
            case rel => (repeat apply Exists.intro); exact ⟨⟨n + 1, u, by omega, by go_num, rfl⟩, rfl⟩
            case measure => simp [intOf]; omega
          · go_wp2_with fail
            refine (onto_call (tells_w _ _ _ _ _ _ _ b0 b1 f3)).mono ?_
            rintro e _ ⟨rfl, u, rfl⟩
            go_wp2_with fail
            refine (onto_call (tells_w _ _ _ _ _ _ _ b0 b1 f1)).mono ?_
            rintro e _ ⟨rfl, u, rfl⟩
            go_wp2_with fail
            go_roundw
            case rel => (repeat apply Exists.intro); exact ⟨⟨n + 1, u, by omega, by go_num, rfl⟩, rfl⟩
            case measure => simp [intOf]; omega
        · have hn2 : n = 6561 := by omega
          subst hn2
          go_wp2_with fail
          refine (onto_call (awake_any _)).mono ?_
          rintro e _ ⟨rfl, u, rfl⟩
          go_wp2_with fail
          go_ret
          exact ⟨rfl, (HK.out.then HK9.out).then (onto_keeps V9 u)⟩
end Go.Proofs.Ytoogopcaieodoaa
