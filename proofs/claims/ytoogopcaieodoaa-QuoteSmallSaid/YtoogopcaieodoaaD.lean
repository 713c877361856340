/-
  Walks over layer 2: Bytes. No condition.
-/
import Derived.Test.YtoogopcaieodoaaC
import Derived.RegionTactic
import Derived.Deep.RegionWith
namespace Go.Proofs.Ytoogopcaieodoaa
open Go.RowKit
attribute [local go_sem] onto_cell onto_frozen
theorem isB_keeps {B b : Nat} {bs : List Value} {w w' : World} (h : Lib.IsBuilder 36 5 B b bs w) (k : Keeps Non w w') : Lib.IsBuilder 36 5 B b bs w' := by
  have one : ∀ p, Lib.BuilderAt 36 5 B b p bs w → Lib.BuilderAt 36 5 B b p bs w' := by
    intro p h
    have hlt := h.lt
    obtain ⟨hB, v, hb, hown, hne⟩ := h
    refine ⟨hB, v, (k.block b hlt (fun x => x)).trans hb, ⟨hown.1, ?_⟩, hne⟩
    rcases hown.2 with hn | ⟨g, cap, cur, hv, hbg, hg, rest⟩
    · exact .inl hn
    · exact .inr ⟨g, cap, cur, hv, hbg, (k.block g (Array.getElem?_eq_some_iff.1 hg).1 (fun x => x)).trans hg, rest⟩
  exact h.imp (one _) (one _)
/-- The forms of bytes, in a row. -/
def formsL (m : Mk) (l : List UInt8) : List UInt8 := l.flatMap fun c => (form m (c.toNat : Int)).data.toList
theorem formsL_append (m : Mk) (a b : List UInt8) : formsL m (a ++ b) = formsL m a ++ formsL m b := by simp [formsL]
theorem form_size (m : Mk) (c : Int) : (form m c).size ≤ 4 := by
  unfold form
  split
  · decide
  · split
    · decide
    · split
      · decide
      · split
        · rw [strOfNums_size]; simp
        · split
          · rw [strOfNums_size]; simp
          · rw [strOfNums_size]; simp
theorem formsL_length (m : Mk) (l : List UInt8) : (formsL m l).length ≤ 4 * l.length := by
  induction l with
  | nil => simp [formsL]
  | cons c r ih =>
    have h := form_size m (c.toNat : Int)
    rw [show c :: r = [c] ++ r from rfl, formsL_append, List.length_append]
    have h1 : (formsL m [c]).length ≤ 4 := by
      simp only [formsL, List.flatMap_cons, List.flatMap_nil, List.append_nil]
      exact h
    rw [List.length_append]
    simp only [List.length_cons, List.length_nil]
    omega
theorem formsL_next (m : Mk) (s : ByteArray) (k : Nat) (hk : k < s.size) : formsL m (s.data.toList.take (k + 1)) = formsL m (s.data.toList.take k) ++ (form m (s[k].toNat : Int)).data.toList := by
  have hk' : k < s.data.toList.length := hk
  rw [List.take_succ_eq_append_getElem hk', formsL_append]
  congr 1
  simp only [formsL, List.flatMap_cons, List.flatMap_nil, List.append_nil]
  rfl
theorem cells_next (m : Mk) (s : ByteArray) (k : Nat) (hk : k < s.size) : Lib.byteCells (formsL m (s.data.toList.take (k + 1))) = Lib.byteCells (formsL m (s.data.toList.take k)) ++ Lib.strCells (form m (s[k].toNat : Int)) := by
  rw [formsL_next m s k hk]
  simp [Lib.byteCells, Lib.strCells]
theorem u8_bd (x : UInt8) : (0 : Int) ≤ (x.toNat : Int) ∧ (x.toNat : Int) ≤ 255 := by
  have := x.toNat_lt
  omega
/-- The forms of a string. -/
def formS (m : Mk) (s : ByteArray) : ByteArray := ⟨(formsL m s.data.toList).toArray⟩
set_option maxHeartbeats 2000000 in
theorem bytes_any (m : Mk) (s : ByteArray) (w : World) (hs : s.size ≤ 1000000) :
    Calls Try.prog 18 #[.string s, setV m] w fun e w' => e = .returned (.string (formS m s)) ∧ Keeps Non w w' := by
  obtain ⟨n, hn⟩ : ∃ n, s.size = n := ⟨_, rfl⟩
  have HN := hide hn
  have hb0 := Blk.new w [.int .u64 m.w0, .int .u64 m.w1, .int .u64 m.w2, .int .u64 m.w3] 24
  obtain ⟨W1, hW1⟩ : ∃ W1, w.alloc (.cells #[.int .u64 m.w0, .int .u64 m.w1, .int .u64 m.w2, .int .u64 m.w3] 24) = W1 := ⟨_, rfl⟩
  have hs1 : W1.heap.size = w.heap.size + 1 := by
    rw [← hW1]
    show (w.heap.push _).size = _
    simp
  have HB0 : Hid (Blk W1 w.heap.size [.int .u64 m.w0, .int .u64 m.w1, .int .u64 m.w2, .int .u64 m.w3] 24) := by rw [← hW1]; exact hb0
  have HK1 : Hid (Keeps Non w W1) := by rw [← hW1]; exact (Keeps.refl _ _).alloc _
  have HW1 := hide hW1
  have HI : Hid (Lib.IsBuilder 36 5 (w.heap.size + 1) (w.heap.size + 1) [] (W1.alloc (.cells #[.pointer none, .slice none 0 0] 36))) := by
    have h := Lib.fresh_isBuilder 36 5 W1
    rw [hs1] at h
    exact h
  clear hb0 hW1
  unfold setV
  go_enter Try.func18, Try.ntmps18
  go_wp2_with fail
  rw [HW1.out]
  go_loopw [9] (fun i wr => ∃ k : Nat, k ≤ n ∧ i = .int .i64 k ∧ Hid (Below (w.heap.size + 1) W1 wr) ∧ Hid (Lib.IsBuilder 36 5 (w.heap.size + 1) (w.heap.size + 1) (Lib.byteCells (formsL m (s.data.toList.take k))) wr)) (fun i _ => n - (intOf i).toNat)
  case atStart => exact ⟨0, by omega, rfl, (Below.refl _ _).alloc (by omega) _, HI.out⟩
  case round =>
    obtain ⟨k, hk, rfl, hB, hI⟩ := hrel
    have lt1 := hB.out.size
    have hbm := HB0.out.below hB.out (by omega)
    have c0 : wr.cell? ⟨w.heap.size, 0, none⟩ = some (.int .u64 m.w0) := hbm.cell 0
    have c1 : wr.cell? ⟨w.heap.size, 1, none⟩ = some (.int .u64 m.w1) := hbm.cell 1
    have c2 : wr.cell? ⟨w.heap.size, 2, none⟩ = some (.int .u64 m.w2) := hbm.cell 2
    have c3 : wr.cell? ⟨w.heap.size, 3, none⟩ = some (.int .u64 m.w3) := hbm.cell 3
    clear hbm
    by_cases hlt : k < n
    · have hlt' : k < s.size := by rw [HN.out]; exact hlt
      have y0 : (0 : Int) ≤ (k : Int) := by omega
      have y1 : (k : Int) < (s.size : Int) := by omega
      have y2 : (k : Int) < (n : Int) := by omega
      have HBy := hide (fun w => byte_any m (s[k].toNat : Int) w (u8_bd _).1 (u8_bd _).2)
      have HL := hide (formsL_length m (s.data.toList.take k))
      have HS := hide (form_size m (s[k].toNat : Int))
      have HC := hide (cells_next m s k hlt')
      have HWr : Hid (∀ w2, Keeps Non wr w2 → Calls Try.prog 13 #[.pointer (some ⟨w.heap.size + 1, 0, none⟩), .string (form m (s[k].toNat : Int))] w2 fun e w3 => e = .returned (.tuple #[.int .i64 (form m (s[k].toNat : Int)).size, .nilIface]) ∧
          Lib.IsBuilder 36 5 (w.heap.size + 1) (w.heap.size + 1) (Lib.byteCells (formsL m (s.data.toList.take (k + 1)))) w3 ∧ Below (w.heap.size + 1) W1 w3) := by
        intro w2 hk2
        rw [HC.out]
        have h1 := HL.out
        have h2 := HS.out
        rw [List.length_take] at h1
        refine (write_any _ _ _ _ w2 (isB_keeps hI.out hk2) ?_ ?_).mono fun e w3 ⟨he, hi, hb⟩ => ⟨he, hi, (hB.out.trans (hk2.below.mono (by omega))).trans hb⟩
        · rw [Lib.byteCells_length]
          omega
        · have := hk2.size
          omega
      unfold setV at HBy
      go_wp2_with fail
      go_region_with (first | (go_at_call 14; refine (HBy.out _).mono ?_; rintro e w2 ⟨rfl, hk2⟩) | (go_at_call 13; refine (HWr.out _ ((Keeps.refl Non wr).drew.then hk2)).mono ?_; rintro e w3 ⟨rfl, hi3, hb3⟩))
      all_goals
        go_wp2_with fail
        go_round
        case rel => exact ⟨k + 1, by omega, by go_num, hb3, hi3⟩
        case measure => simp [intOf]; omega
    · have hkn : k = n := by omega
      have HT := hide (Try.Builder_String_any (w.heap.size + 1) (w.heap.size + 1) (formsL m s.data.toList) wr (by
        have h := hI.out
        rw [hkn, ← HN.out, List.take_of_length_le (by exact Nat.le_refl _)] at h
        exact h) (by omega))
      have HE : Hid (Keeps Non w wr) := HK1.out.thenBelow (hB.out.mono (by omega))
      go_wp2_with fail
      refine HT.out.mono ?_
      rintro e w2 ⟨rfl, hb2⟩
      go_wp2_with fail
      go_ret
      exact ⟨rfl, HE.out.thenBelow (hb2.mono (by omega))⟩
end Go.Proofs.Ytoogopcaieodoaa
