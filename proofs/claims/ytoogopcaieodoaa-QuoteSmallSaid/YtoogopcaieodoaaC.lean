import Derived.Test.YtoogopcaieodoaaB
import Derived.Laws.BytesArg
import Derived.Outline
import Derived.RegionTactic
namespace Go.Proofs.Ytoogopcaieodoaa
open Go.RowKit
attribute [local go_sem] onto_cell onto_frozen
theorem cell_new (w : World) (C : Array Value) (t : TypeId) (j : Nat) : (w.alloc (.cells C t)).cell? ⟨w.heap.size, j, none⟩ = C[j]? := by
  have : (w.alloc (.cells C t)).heap[w.heap.size]? = some (.cells C t (0, 0)) := by
    show (w.heap.push (.cells C t))[w.heap.size]? = _
    simp
  unfold World.cell?
  rw [this]
  simp
theorem conv1 (w : World) (c : Int) (t : TypeId) : (convert 33 9 (.slice (some ⟨w.heap.size, 0, none⟩) 1 1)).run Try.prog (w.alloc (.cells #[.int .u8 c] t)) = .ok (.string (strOfNums [c])) (w.alloc (.cells #[.int .u8 c] t)) :=
  run_convert_bytes_arg _ 33 5 (by rfl) (by rfl) _ 0 1 1 [c] rfl (fun i hi => by
    obtain rfl : i = 0 := by omega
    exact cell_new ..) 9 (by rfl)
theorem conv2 (w : World) (b c : Int) (t : TypeId) : (convert 33 9 (.slice (some ⟨w.heap.size, 0, none⟩) 2 2)).run Try.prog (w.alloc (.cells #[.int .u8 b, .int .u8 c] t)) = .ok (.string (strOfNums [b, c])) (w.alloc (.cells #[.int .u8 b, .int .u8 c] t)) :=
  run_convert_bytes_arg _ 33 5 (by rfl) (by rfl) _ 0 2 2 [b, c] rfl (fun i hi => by
    obtain rfl | rfl : i = 0 ∨ i = 1 := by omega
    all_goals exact cell_new ..) 9 (by rfl)
theorem conv4 (w : World) (o : Obj) (a b c d : Int) (t : TypeId) : (convert 33 9 (.slice (some ⟨w.heap.size + 1, 0, none⟩) 4 4)).run Try.prog ((w.alloc o).alloc (.cells #[.int .u8 a, .int .u8 b, .int .u8 c, .int .u8 d] t)).drew = .ok (.string (strOfNums [a, b, c, d])) ((w.alloc o).alloc (.cells #[.int .u8 a, .int .u8 b, .int .u8 c, .int .u8 d] t)).drew :=
  have e : (w.alloc o).heap.size = w.heap.size + 1 := by
    show (w.heap.push o).size = _
    simp
  run_convert_bytes_arg _ 33 5 (by rfl) (by rfl) _ 0 4 4 [a, b, c, d] rfl (fun i hi => by
    rw [← e]
    obtain rfl | rfl | rfl | rfl : i = 0 ∨ i = 1 ∨ i = 2 ∨ i = 3 := by omega
    all_goals exact cell_new (w.alloc o) ..) 9 (by rfl)
theorem conv2s (w : World) (o : Obj) (b c : Int) (t : TypeId) : (convert 33 9 (.slice (some ⟨w.heap.size + 1, 0, none⟩) 2 2)).run Try.prog ((w.alloc o).alloc (.cells #[.int .u8 b, .int .u8 c] t)) = .ok (.string (strOfNums [b, c])) ((w.alloc o).alloc (.cells #[.int .u8 b, .int .u8 c] t)) := by
  have e : (w.alloc o).heap.size = w.heap.size + 1 := by
    show (w.heap.push o).size = _
    simp
  rw [← e]
  exact conv2 ..
theorem ret_str {a b : ByteArray} (h : a = b) : Ending.returned (.string a) = .returned (.string b) := by rw [h]
/-- The hexadecimal digit of a number. -/
def hexB (i : Int) : Int := (hexL[i.toNat]?.getD 0).toNat
theorem hexB_is (i : Int) (h : i.toNat < (ByteArray.mk #[48, 49, 50, 51, 52, 53, 54, 55, 56, 57, 97, 98, 99, 100, 101, 102]).size) :
    (((ByteArray.mk #[48, 49, 50, 51, 52, 53, 54, 55, 56, 57, 97, 98, 99, 100, 101, 102])[i.toNat]'h).toNat : Int) = hexB i := by
  have h' : i.toNat < 16 := h
  unfold hexB hexL
  generalize i.toNat = n at *
  obtain h | h | h | h | h | h | h | h | h | h | h | h | h | h | h | h : n = 0 ∨ n = 1 ∨ n = 2 ∨ n = 3 ∨ n = 4 ∨ n = 5 ∨ n = 6 ∨ n = 7 ∨ n = 8 ∨ n = 9 ∨ n = 10 ∨ n = 11 ∨ n = 12 ∨ n = 13 ∨ n = 14 ∨ n = 15 := by omega
  all_goals subst h; rfl
/-- The form of a byte. -/
def form (m : Mk) (c : Int) : ByteArray :=
  if c = 10 then ⟨#[92, 110]⟩ else if c = 13 then ⟨#[92, 114]⟩ else if c = 9 then ⟨#[92, 116]⟩
  else if c < 32 ∨ 126 < c then strOfNums [92, 120, hexB (c / 16), hexB (c % 16)]
  else if c = 92 ∨ isMk m c = true then strOfNums [92, c] else strOfNums [c]
theorem byte_short (m : Mk) (c : Int) (w : World) (h : c = 10 ∨ c = 13 ∨ c = 9) :
    Calls Try.prog 14 #[.int .u8 c, setV m] w fun e w' => e = .returned (.string (form m c)) ∧ Keeps Non w w' := by
  unfold setV
  rcases h with rfl | rfl | rfl
  · have HC := hide (fun w => index_at ⟨#[10, 13, 9]⟩ 10 0 w (by rfl))
    go_enter Try.func14, Try.ntmps14
    go_wp2_with (go_at_call 34; refine (HC.out _).mono ?_; rintro e w' ⟨rfl, rfl⟩)
    go_ret
    exact ⟨ret_str (by rfl), (Keeps.refl _ _).alloc _⟩
  · have HC := hide (fun w => index_at ⟨#[10, 13, 9]⟩ 13 1 w (by rfl))
    go_enter Try.func14, Try.ntmps14
    go_wp2_with (go_at_call 34; refine (HC.out _).mono ?_; rintro e w' ⟨rfl, rfl⟩)
    go_ret
    exact ⟨ret_str (by rfl), (Keeps.refl _ _).alloc _⟩
  · have HC := hide (fun w => index_at ⟨#[10, 13, 9]⟩ 9 2 w (by rfl))
    go_enter Try.func14, Try.ntmps14
    go_wp2_with (go_at_call 34; refine (HC.out _).mono ?_; rintro e w' ⟨rfl, rfl⟩)
    go_ret
    exact ⟨ret_str (by rfl), (Keeps.refl _ _).alloc _⟩
set_option maxRecDepth 100000 in
theorem idx_short (c : Int) (h0 : 0 ≤ c) (h1 : c ≤ 255) (h : ¬ (c = 10 ∨ c = 13 ∨ c = 9)) : idx [10, 13, 9] c = -1 := by
  have : ∀ n : Nat, n < 256 → n ≠ 10 → n ≠ 13 → n ≠ 9 → idx [10, 13, 9] (n : Int) = -1 := by decide
  have := this c.toNat (by omega) (by omega) (by omega) (by omega)
  rwa [Int.toNat_of_nonneg h0] at this
theorem byte_hex (m : Mk) (c : Int) (w : World) (h0 : 0 ≤ c) (h1 : c ≤ 255) (hi : idx [10, 13, 9] c = -1) (d1 d2 : Bool) (hd1 : decide (c < 32) = d1) (hd2 : decide (126 < c) = d2) (hd : (d1 || d2) = true) :
    Calls Try.prog 14 #[.int .u8 c, setV m] w fun e w' => e = .returned (.string (strOfNums [92, 120, hexB (c / 16), hexB (c % 16)])) ∧ Keeps Non w w' := by
  have HC := hide (fun w => index_at ⟨#[10, 13, 9]⟩ c _ w hi)
  have e1 : 0 ≤ c / 16 := by omega
  have e2 : c / 16 < 16 := by omega
  have e3 : 0 ≤ c % 16 := by omega
  have e4 : c % 16 < 16 := by omega
  have kc := conv4
  clear hi
  unfold setV
  cases d1 <;> cases d2 <;> simp only [Bool.or_true, Bool.or_false, reduceCtorEq] at hd
  all_goals
    go_enter Try.func14, Try.ntmps14
    go_wp2_with (go_at_call 34; refine (HC.out _).mono ?_; rintro e w' ⟨rfl, rfl⟩)
    go_region
    go_wp2
    go_ret
    refine ⟨ret_str (by rw [hexB_is, hexB_is]), ?_⟩
    exact (((Keeps.refl _ _).alloc _).alloc _).drew
set_option maxHeartbeats 1000000 in
theorem byte_mark (m : Mk) (c : Int) (w : World) (h0 : 32 ≤ c) (h1 : c ≤ 126) (hi : idx [10, 13, 9] c = -1) (hb : (c == 92) = false) (hm : isMk m c = true) :
    Calls Try.prog 14 #[.int .u8 c, setV m] w fun e w' => e = .returned (.string (strOfNums [92, c])) ∧ Keeps Non w w' := by
  have HC := hide (fun w => index_at ⟨#[10, 13, 9]⟩ c _ w hi)
  have HM := hide (fun w => isMark_at m c _ w (by omega) (by omega) hm)
  have e1 : decide (c < 32) = false := by simp; omega
  have e2 : decide (126 < c) = false := by simp; omega
  have kc := fun w b t => conv2 w b c t
  clear hi hm
  unfold setV
  go_enter Try.func14, Try.ntmps14
  go_wp2_with (first | (go_at_call 34; refine (HC.out _).mono ?_; rintro e w' ⟨rfl, rfl⟩) | (go_at_call 35; refine (HM.out _).mono ?_; rintro e w' ⟨rfl, hk⟩))
  go_ret
  exact ⟨rfl, (((Keeps.refl _ _).alloc _).then hk).alloc _⟩
set_option maxHeartbeats 1000000 in
theorem byte_slash (m : Mk) (w : World) :
    Calls Try.prog 14 #[.int .u8 92, setV m] w fun e w' => e = .returned (.string (strOfNums [92, 92])) ∧ Keeps Non w w' := by
  have HC := hide (fun w => index_at ⟨#[10, 13, 9]⟩ 92 (-1) w (by rfl))
  have kc := fun w o b t => conv2s w o b 92 t
  unfold setV
  go_enter Try.func14, Try.ntmps14
  go_wp2_with (go_at_call 34; refine (HC.out _).mono ?_; rintro e w' ⟨rfl, rfl⟩)
  go_ret
  exact ⟨rfl, (((Keeps.refl _ _).alloc _)).alloc _⟩
set_option maxHeartbeats 1000000 in
theorem byte_bare (m : Mk) (c : Int) (w : World) (h0 : 32 ≤ c) (h1 : c ≤ 126) (hi : idx [10, 13, 9] c = -1) (hb : (c == 92) = false) (hm : isMk m c = false) :
    Calls Try.prog 14 #[.int .u8 c, setV m] w fun e w' => e = .returned (.string (strOfNums [c])) ∧ Keeps Non w w' := by
  have HC := hide (fun w => index_at ⟨#[10, 13, 9]⟩ c _ w hi)
  have HM := hide (fun w => isMark_at m c _ w (by omega) (by omega) hm)
  have e1 : decide (c < 32) = false := by simp; omega
  have e2 : decide (126 < c) = false := by simp; omega
  have kc := fun w t => conv1 w c t
  clear hi hm
  unfold setV
  go_enter Try.func14, Try.ntmps14
  go_wp2_with (first | (go_at_call 34; refine (HC.out _).mono ?_; rintro e w' ⟨rfl, rfl⟩) | (go_at_call 35; refine (HM.out _).mono ?_; rintro e w' ⟨rfl, hk⟩))
  go_ret
  exact ⟨rfl, (((Keeps.refl _ _).alloc _).then hk).alloc _⟩
/-- BYTE. -/
theorem byte_any (m : Mk) (c : Int) (w : World) (h0 : 0 ≤ c) (h1 : c ≤ 255) :
    Calls Try.prog 14 #[.int .u8 c, setV m] w fun e w' => e = .returned (.string (form m c)) ∧ Keeps Non w w' := by
  by_cases hs : c = 10 ∨ c = 13 ∨ c = 9
  · exact byte_short m c w hs
  · have hi := idx_short c h0 h1 hs
    have e1 : ¬ c = 10 := fun h => hs (.inl h)
    have e2 : ¬ c = 13 := fun h => hs (.inr (.inl h))
    have e3 : ¬ c = 9 := fun h => hs (.inr (.inr h))
    by_cases hx : c < 32 ∨ 126 < c
    · have e : form m c = strOfNums [92, 120, hexB (c / 16), hexB (c % 16)] := by
        unfold form
        rw [if_neg e1, if_neg e2, if_neg e3, if_pos hx]
      rw [e]
      exact byte_hex m c w h0 h1 hi _ _ rfl rfl (by simpa using hx)
    · by_cases hb : c = 92
      · subst hb
        exact byte_slash m w
      · have hb' : (c == 92) = false := by simpa using hb
        cases hm : isMk m c with
        | true =>
          have e : form m c = strOfNums [92, c] := by
            unfold form
            rw [if_neg e1, if_neg e2, if_neg e3, if_neg hx, if_pos (.inr hm)]
          rw [e]
          exact byte_mark m c w (by omega) (by omega) hi hb' hm
        | false =>
          have e : form m c = strOfNums [c] := by
            unfold form
            rw [if_neg e1, if_neg e2, if_neg e3, if_neg hx, if_neg (by simp [hb, hm])]
          rw [e]
          exact byte_bare m c w (by omega) (by omega) hi hb' hm
end Go.Proofs.Ytoogopcaieodoaa
