/-
  The walk over awake. No condition.
-/
import Derived.Test.YtoogopcaieodoaaN
namespace Go.Proofs.Ytoogopcaieodoaa
open Go.RowKit Go.Shelf
attribute [local go_sem] onto_cell onto_frozen
/-- The marks of the examples. -/
def am : Mk := ⟨145135534866432, 0, 0, 0⟩
theorem aw_of (b cap : Nat) (w : World) (h : Blk w b [.int .u8 47, .int .u8 42] 5) : Calls Try.prog 24 #[.slice (some ⟨b, 0, none⟩) 2 cap] w fun e w' => e = .returned (.agg #[.int .u64 145135534866432, .int .u64 0, .int .u64 0, .int .u64 0]) ∧ Keeps Non w w' :=
  (of_any b cap [47, 42] w h (fun i hi => by
    have : i = 0 ∨ i = 1 := by simp at hi; omega
    rcases this with rfl | rfl <;> decide) (by decide)).mono fun _ _ ⟨he, hk⟩ => ⟨he.trans (by kernel_rfl), hk⟩
theorem aw_rb (s : ByteArray) (v : Value) (w : World) (h : rdT (rdB am s.data.toList) = v) : Calls Try.prog 20 #[.string s, .agg #[.int .u64 145135534866432, .int .u64 0, .int .u64 0, .int .u64 0]] w fun e w' => e = .returned v ∧ Keeps Non w w' :=
  (rb_any am s w).mono fun _ _ ⟨he, hk⟩ => ⟨he.trans (by rw [h]), hk⟩
theorem aw_unq (s : ByteArray) (v : Value) (w : World) (hs : s.size ≤ 1000000) (h : unqT (unq s.data.toList) = v) : Calls Try.prog 12 #[.string s] w fun e w' => e = .returned v ∧ Keeps Non w w' :=
  (unquote_any s w hs).mono fun _ _ ⟨he, hk⟩ => ⟨he.trans (by rw [h]), hk⟩
theorem aw_can (w : World) : Calls Try.prog 15 #[.string ⟨#[92, 120, 54, 49, 92, 120, 50, 102]⟩, .agg #[.int .u64 145135534866432, .int .u64 0, .int .u64 0, .int .u64 0]] w fun e w' => e = .returned (.tuple #[.string ⟨#[97, 92, 47]⟩, .int .i64 8, .int .i64 0]) ∧ Keeps Non w w' :=
  (canonical_any am ⟨#[92, 120, 54, 49, 92, 120, 50, 102]⟩ w (by decide) (by decide)).mono fun _ _ ⟨he, hk⟩ => ⟨he.trans (by kernel_rfl), hk⟩
theorem aw_bytes (s t : ByteArray) (w : World) (hs : s.size ≤ 1000000) (h : formS am s = t) : Calls Try.prog 18 #[.string s, .agg #[.int .u64 145135534866432, .int .u64 0, .int .u64 0, .int .u64 0]] w fun e w' => e = .returned (.string t) ∧ Keeps Non w w' :=
  (bytes_any am s w hs).mono fun _ _ ⟨he, hk⟩ => ⟨he.trans (by rw [h]), hk⟩
theorem aw_byte (w : World) : Calls Try.prog 14 #[.int .u8 10, .agg #[.int .u64 145135534866432, .int .u64 0, .int .u64 0, .int .u64 0]] w fun e w' => e = .returned (.string ⟨#[92, 110]⟩) ∧ Keeps Non w w' :=
  (byte_any am 10 w (by decide) (by decide)).mono fun _ _ ⟨he, hk⟩ => ⟨he.trans (by kernel_rfl), hk⟩
theorem aw_quote (w : World) : Calls Try.prog 11 #[.string ⟨#[97, 34, 98, 92]⟩] w fun e w' => e = .returned (.string ⟨#[34, 97, 92, 34, 98, 92, 92, 34]⟩) ∧ Keeps Non w w' :=
  (quote_any ⟨#[97, 34, 98, 92]⟩ w (by decide)).mono fun _ _ ⟨he, hk⟩ => ⟨he.trans (by kernel_rfl), hk⟩
set_option maxRecDepth 100000 in
set_option maxHeartbeats 4000000 in
theorem awake_any (w : World) :
    Calls Try.prog 10 #[] w fun e w' => e = .returned (.bool true) ∧ Keeps Non w w' := by
  go_enter Try.func10, Try.ntmps10
  go_wp2_with fail
  refine (aw_of _ _ _ (Blk.new w [.int .u8 47, .int .u8 42] 5)).mono ?_
  rintro e w2 ⟨rfl, hk2⟩
  have HK := hide (((Keeps.refl Non w).alloc _).then hk2)
  clear hk2
  go_wp2_with fail
  obtain ⟨b, hb⟩ : ∃ b, w2.heap.size = b := ⟨_, rfl⟩
  obtain ⟨W, hW⟩ : ∃ W, w2.alloc (.cells #[.int .u64 145135534866432, .int .u64 0, .int .u64 0, .int .u64 0] 24) = W := ⟨_, rfl⟩
  have hB := Blk.newAt w2 (wl am) 24 hb.symm
  replace hB : Blk W b (wl am) 24 := by rw [← hW]; exact hB
  replace HK : Hid (Keeps Non w W) := by rw [← hW]; exact HK.out.alloc _
  rw [hW, hb]
  clear hW hb
  have HB := hide hB
  have lb := hB.lt
  have c0 : W.cell? ⟨b, 0, none⟩ = some (.int .u64 145135534866432) := hB.cell 0
  have c1 : W.cell? ⟨b, 1, none⟩ = some (.int .u64 0) := hB.cell 1
  have c2 : W.cell? ⟨b, 2, none⟩ = some (.int .u64 0) := hB.cell 2
  have c3 : W.cell? ⟨b, 3, none⟩ = some (.int .u64 0) := hB.cell 3
  clear hB
  refine (aw_rb _ (.tuple #[.int .u8 65, .int .i64 4, .int .i64 0]) _ (by kernel_rfl)).mono ?_
  rintro e w3 ⟨rfl, hk⟩
  obtain ⟨u, rfl⟩ : ∃ u, w3 = onto W u := ⟨w3, (onto_of hk).symm⟩
  clear hk
  go_wp2_with fail
  refine (onto_call (aw_rb _ (.tuple #[.int .u8 47, .int .i64 2, .int .i64 0]) _ (by kernel_rfl))).mono ?_
  rintro e _ ⟨rfl, u, rfl⟩
  go_wp2_with fail
  obtain ⟨z, hz⟩ : ∃ z, (onto W u).heap.size = z := ⟨_, rfl⟩
  rw [hz]
  have hzb : b < z := by rw [← hz]; exact Nat.lt_of_lt_of_le lb (onto_keeps W u).size
  generalize hV : World.alloc (onto W u) (.cells #[.string ⟨#[92, 113]⟩, .string ⟨#[92, 120, 52]⟩, .string ⟨#[92]⟩, .string ⟨#[42]⟩] 9) = V
  have hS : Blk V z [.string ⟨#[92, 113]⟩, .string ⟨#[92, 120, 52]⟩, .string ⟨#[92]⟩, .string ⟨#[42]⟩] 9 := by
    rw [← hV]
    exact Blk.newAt _ [.string ⟨#[92, 113]⟩, .string ⟨#[92, 120, 52]⟩, .string ⟨#[92]⟩, .string ⟨#[42]⟩] 9 hz.symm
  replace HK : Hid (Keeps Non w V) := by rw [← hV]; exact (HK.out.then (onto_keeps W u)).alloc _
  replace HB : Hid (Blk V b (wl am) 24) := by rw [← hV]; exact (HB.out.keeps (onto_keeps W u) (fun x => x)).alloc _
  clear hV hz c0 c1 c2 c3 lb
  have lz := hS.lt
  have lb : b < V.heap.size := Nat.lt_trans hzb lz
  have c0 : V.cell? ⟨b, 0, none⟩ = some (.int .u64 145135534866432) := HB.out.cell 0
  have c1 : V.cell? ⟨b, 1, none⟩ = some (.int .u64 0) := HB.out.cell 1
  have c2 : V.cell? ⟨b, 2, none⟩ = some (.int .u64 0) := HB.out.cell 2
  have c3 : V.cell? ⟨b, 3, none⟩ = some (.int .u64 0) := HB.out.cell 3
  have s0 : V.cell? ⟨z, 0, none⟩ = some (.string ⟨#[92, 113]⟩) := hS.cell 0
  have s1 : V.cell? ⟨z, 1, none⟩ = some (.string ⟨#[92, 120, 52]⟩) := hS.cell 1
  have s2 : V.cell? ⟨z, 2, none⟩ = some (.string ⟨#[92]⟩) := hS.cell 2
  have s3 : V.cell? ⟨z, 3, none⟩ = some (.string ⟨#[42]⟩) := hS.cell 3
  clear hS
  go_loopw [41] (fun i wr => ∃ (k : Nat) (u : World), k ≤ 4 ∧ i = .int .i64 k ∧ wr = onto V u) (fun i _ => 4 - (intOf i).toNat)
  case atStart => exact ⟨0, V, by omega, rfl, (onto_of (Keeps.refl Non V)).symm⟩
  case round =>
    obtain ⟨k, u, hk, rfl, rfl⟩ := hrel
    obtain rfl | rfl | rfl | rfl | rfl : k = 0 ∨ k = 1 ∨ k = 2 ∨ k = 3 ∨ k = 4 := by omega
    · go_wp2_with fail
      refine (onto_call (aw_rb _ (.tuple #[.int .u8 0, .int .i64 0, .int .i64 20]) _ (by kernel_rfl))).mono ?_
      rintro e _ ⟨rfl, u, rfl⟩
      go_wp2_with fail
      go_roundw
      case rel => exact ⟨1, u, by omega, by go_num, rfl⟩
      case measure => simp [intOf]
    · go_wp2_with fail
      refine (onto_call (aw_rb _ (.tuple #[.int .u8 0, .int .i64 0, .int .i64 20]) _ (by kernel_rfl))).mono ?_
      rintro e _ ⟨rfl, u, rfl⟩
      go_wp2_with fail
      go_roundw
      case rel => exact ⟨2, u, by omega, by go_num, rfl⟩
      case measure => simp [intOf]
    · go_wp2_with fail
      refine (onto_call (aw_rb _ (.tuple #[.int .u8 0, .int .i64 0, .int .i64 20]) _ (by kernel_rfl))).mono ?_
      rintro e _ ⟨rfl, u, rfl⟩
      go_wp2_with fail
      go_roundw
      case rel => exact ⟨3, u, by omega, by go_num, rfl⟩
      case measure => simp [intOf]
    · go_wp2_with fail
      refine (onto_call (aw_rb _ (.tuple #[.int .u8 0, .int .i64 0, .int .i64 20]) _ (by kernel_rfl))).mono ?_
      rintro e _ ⟨rfl, u, rfl⟩
      go_wp2_with fail
      go_roundw
      case rel => exact ⟨4, u, by omega, by go_num, rfl⟩
      case measure => simp [intOf]
    · go_wp2_with fail
      refine (onto_call (aw_unq _ (.tuple #[.string ⟨#[97]⟩, .int .i64 3, .int .i64 0]) _ (by decide) (by kernel_rfl))).mono ?_
      rintro e _ ⟨rfl, u, rfl⟩
      go_wp2_with fail
      refine (onto_call (aw_unq _ (.tuple #[.string ⟨#[]⟩, .int .i64 2, .int .i64 21]) _ (by decide) (by kernel_rfl))).mono ?_
      rintro e _ ⟨rfl, u, rfl⟩
      go_wp2_with fail
      refine (onto_call (aw_unq _ (.tuple #[.string ⟨#[]⟩, .int .i64 1, .int .i64 20]) _ (by decide) (by kernel_rfl))).mono ?_
      rintro e _ ⟨rfl, u, rfl⟩
      go_wp2_with fail
      refine (onto_call (aw_can _)).mono ?_
      rintro e _ ⟨rfl, u, rfl⟩
      go_wp2_with fail
      refine (onto_call (aw_bytes ⟨#[97, 47, 98]⟩ ⟨#[97, 92, 47, 98]⟩ _ (by decide) (by kernel_rfl))).mono ?_
      rintro e _ ⟨rfl, u, rfl⟩
      go_wp2_with fail
      refine (onto_call (aw_bytes ⟨#[0, 200]⟩ ⟨#[92, 120, 48, 48, 92, 120, 99, 56]⟩ _ (by decide) (by kernel_rfl))).mono ?_
      rintro e _ ⟨rfl, u, rfl⟩
      go_wp2_with fail
      refine (onto_call (aw_byte _)).mono ?_
      rintro e _ ⟨rfl, u, rfl⟩
      go_wp2_with fail
      refine (onto_call (aw_quote _)).mono ?_
      rintro e _ ⟨rfl, u, rfl⟩
      go_wp2_with fail
      go_ret
      exact ⟨rfl, HK.out.then (onto_keeps V u)⟩
end Go.Proofs.Ytoogopcaieodoaa
