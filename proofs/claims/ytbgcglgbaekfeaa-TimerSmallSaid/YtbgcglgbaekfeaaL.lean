/-
  The walk over TimerRounds. No condition.
-/
import Derived.Test.YtbgcglgbaekfeaaJ
namespace Go.Proofs.Ytbgcglgbaekfeaa
open Go.RowKit
attribute [local go_sem] onto_cell onto_frozen
theorem Ints.past {w0 w w' : World} {a : Option Addr} {n b : Nat} {xs : List Int} (h0 : Ints w0 a n xs) (hb : w0.heap.size ≤ b) (h : Ints w a n xs) (k : Keeps (· = b) w w') : Ints w' a n xs := by
  refine ⟨h.len, h.big, ?_⟩
  rcases h0.cell with h1 | ⟨b1, o1, rfl, hb1, _⟩
  · exact .inl h1
  · rcases h.cell with h2 | ⟨b2, o2, he, hb2, hc⟩
    · exact .inl h2
    · cases he
      exact .inr ⟨b1, o1, rfl, Nat.lt_of_lt_of_le hb2 k.size, fun i hi => (k.cell (p := ⟨b1, o1 + i, none⟩) hb2 (by show ¬ b1 = b; omega)).trans (hc i hi)⟩
theorem ro_nil {xs : List Int} {q : Int} (hc : chk xs = 0) (hx : xs = []) (hq : 0 ≤ q) : roR xs q = (0, q, 0) := by
  have : ¬ q < 0 := by omega
  simp [roR, hc, hx, this]
  subst hx
  simp [hc]
theorem ro_some {xs : List Int} {q : Int} (hc : chk xs = 0) (hx : xs ≠ []) (hq : 0 ≤ q) : roR xs q = (q / ofT xs, q % ofT xs, 0) := by
  have : ¬ q < 0 := by omega
  simp [roR, hc, hx, this]
/-- How often, and how far. -/
def St (xs : List Int) (k c p : Int) : Prop := 0 ≤ c ∧ c ≤ k ∧ 0 ≤ p ∧ p ≤ k ∧ (xs = [] ∧ c = 0 ∧ p = k ∨ xs ≠ [] ∧ k = c * ofT xs + p ∧ p < ofT xs)
theorem st_end {xs : List Int} {k c p : Int} (hc : chk xs = 0) (h : St xs k c p) : roR xs k = (c, p, 0) := by
  obtain ⟨h1, h2, h3, h4, h5⟩ := h
  rcases h5 with ⟨hx, rfl, rfl⟩ | ⟨hx, hk, hp⟩
  · exact ro_nil hc hx h3
  · rw [ro_some hc hx (by omega)]
    have hT := ofT_bd hc hx
    have e1 : k / ofT xs = c := by
      rw [hk, Int.add_comm, Int.add_mul_ediv_right _ _ (by omega), Int.ediv_eq_zero_of_lt h3 hp]
      omega
    have e2 : k % ofT xs = p := by
      rw [hk, Int.add_comm, Int.add_mul_emod_self_right, Int.emod_eq_of_lt h3 hp]
    rw [e1, e2]
theorem st_zero (xs : List Int) (hc : chk xs = 0) : St xs 0 0 0 := by
  refine ⟨by omega, by omega, by omega, by omega, ?_⟩
  by_cases hx : xs = []
  · exact .inl ⟨hx, rfl, rfl⟩
  · have := ofT_bd hc hx
    exact .inr ⟨hx, by omega, by omega⟩
theorem st_nil {xs : List Int} {k c p : Int} (hx : xs = []) (h : St xs k c p) : St xs (k + 1) c (p + 1) := by
  obtain ⟨h1, h2, h3, h4, h5⟩ := h
  rcases h5 with ⟨_, rfl, rfl⟩ | ⟨hx2, _⟩
  · exact ⟨by omega, by omega, by omega, by omega, .inl ⟨hx, rfl, rfl⟩⟩
  · exact absurd hx hx2
theorem st_fire {xs : List Int} {k c p : Int} (hx : xs ≠ []) (h : St xs k c p) (hf : p + 1 = ofT xs) : St xs (k + 1) (c + 1) 0 := by
  obtain ⟨h1, h2, h3, h4, h5⟩ := h
  rcases h5 with ⟨hx2, _⟩ | ⟨_, hk, hp⟩
  · exact absurd hx2 hx
  · exact ⟨by omega, by omega, by omega, by omega, .inr ⟨hx, by rw [Int.add_mul]; omega, by omega⟩⟩
theorem st_not {xs : List Int} {k c p : Int} (hx : xs ≠ []) (h : St xs k c p) (hf : ¬ p + 1 = ofT xs) : St xs (k + 1) c (p + 1) := by
  obtain ⟨h1, h2, h3, h4, h5⟩ := h
  rcases h5 with ⟨hx2, _⟩ | ⟨_, hk, hp⟩
  · exact absurd hx2 hx
  · exact ⟨by omega, by omega, by omega, by omega, .inr ⟨hx, by omega, by omega⟩⟩
theorem lI_nil {xs : List Int} (hx : xs = []) : lI xs < 0 := by simp [lI, hx]
theorem lI_some {xs : List Int} (hx : xs ≠ []) : 0 ≤ lI xs := by simp [lI, hx]
theorem lT_some {xs : List Int} (hx : xs ≠ []) : lT xs = ofT xs := by simp [lT, hx]
theorem rd_any (a : Option Addr) (n cap : Nat) (xs : List Int) (q x y : Int) (w : World) (h : Ints w a n xs) (hq : q ≤ 9223372036854775807) (he : roR xs q = (x, y, 0)) :
    Calls Try.prog 20 #[.slice a n cap, .int .i64 q] w fun e w' => e = .returned (.tuple #[.int .i64 x, .int .i64 y, .int .i64 0]) ∧ Keeps Non w w' := by
  have := rounds_any a n cap xs q w h hq
  rw [he] at this
  exact this
set_option maxHeartbeats 4000000 in
theorem law_rounds (a : Option Addr) (n cap : Nat) (zs : List Int) (q : Int) (w : World) (h : Byts w a n zs) (hr : n ≤ cap ∧ cap ≤ 9223372036854775807) (h0 : a = none → cap = 0) (hq0 : 0 ≤ q) (hq1 : q ≤ 255) :
    Calls Try.prog 6 #[.slice a n cap, .int .u8 q] w fun e w' => e = .returned (.bool true) ∧ Keeps Non w w' := by
  have q32 := eq32
  have HC := hide (made_any a n cap zs w h hr h0)
  have hc := hide (made_chk zs)
  clear h hr h0
  generalize made zs = xs at HC hc
  obtain ⟨x, y, he⟩ : ∃ x y, roR xs q = (x, y, 0) := by
    by_cases hx : xs = []
    · exact ⟨_, _, ro_nil hc.out hx hq0⟩
    · exact ⟨_, _, ro_some hc.out hx hq0⟩
  have HE := hide he
  clear he
  go_enter Try.func6, Try.ntmps6
  go_wp2_with fail
  refine HC.out.mono ?_
  rintro e w1 ⟨a', n', c', rfl, hI, hk⟩
  have HI := hide hI
  have HK := hide hk
  clear hk hI HC
  go_wp2_with fail
  refine (rd_any a' n' c' xs q x y _ HI.out (by omega) HE.out).mono ?_
  rintro e w2 ⟨rfl, hk⟩
  have HI := hide (HI.out.non hk)
  have HK := hide (HK.out.then hk)
  clear hk
  go_wp2_with fail
  refine (new_ok a' n' c' xs _ HI.out hc.out).mono ?_
  rintro e w3 ⟨b, rfl, hb, hT, hk⟩
  have HI0 := HI
  have HI := hide (HI.out.non hk)
  have HB0 := hide hb
  have HB := hide (Nat.le_trans HK.out.size hb)
  have HK := hide (HK.out.then hk)
  have HT := hide hT
  clear hk hT hb
  go_wp2_with fail
  go_loopw [39, 11] (fun i cv wr => ∃ k c p : Int, 0 ≤ k ∧ k ≤ q ∧ i = .int .u8 k ∧ cv = .int .i64 c ∧ Hid (St xs k c p) ∧ Hid (Tim wr b (lI xs) (lT xs) p false) ∧ Hid (Ints wr a' n' xs) ∧ Hid (Keeps Non w wr)) (fun i _ _ => q.toNat - (intOf i).toNat)
  case atStart => exact ⟨0, 0, 0, by omega, hq0, rfl, rfl, st_zero xs hc.out, HT.out, HI.out, HK.out⟩
  case round =>
    obtain ⟨k, c, p, hk0, hkq, rfl, rfl, hS, hT, hI, hK⟩ := hrel
    obtain ⟨s1, s2, s3, s4, -⟩ := hS.out
    by_cases hlt : k < q
    · by_cases hx : xs = []
      · have HTk := hide (tick_none b _ _ p wr hT.out (lI_nil hx) s3 (by omega))
        have hx := hide hx
        go_wp2_with fail
        refine HTk.out.mono ?_
        rintro e w4 ⟨rfl, hk4, hT4⟩
        have HT4 := hide hT4
        have HI4 := hide (HI0.out.past HB0.out hI.out hk4)
        have HK4 := hide (hK.out.trans hk4 (by intro i hi e; have := HB.out; omega))
        clear hT4 hk4 HTk
        go_wp2
        go_roundw
        case rel => exact ⟨k + 1, c, p + 1, by omega, by omega, by go_num, rfl, st_nil hx.out hS.out, HT4.out, HI4.out, HK4.out⟩
        case measure => simp [intOf]; omega
      · by_cases hf : p + 1 = ofT xs
        · have HTk := hide (tick_fires b _ _ p wr hT.out (lI_some hx) (hf.trans (lT_some hx).symm) s3 (by omega))
          have hx := hide hx
          have hf := hide hf
          go_wp2_with fail
          refine HTk.out.mono ?_
          rintro e w4 ⟨rfl, hk4, hT4⟩
          have HT4 := hide hT4
          have HI4 := hide (HI0.out.past HB0.out hI.out hk4)
          have HK4 := hide (hK.out.trans hk4 (by intro i hi e; have := HB.out; omega))
          clear hT4 hk4 HTk
          go_wp2_with fail
          refine (enter_ok b _ _ _ _ a' n' c' xs _ HT4.out HI4.out hc.out).mono ?_
          rintro e w5 ⟨rfl, hk5, hT5⟩
          have HT5 := hide hT5
          have HI5 := hide (HI0.out.past HB0.out HI4.out hk5)
          have HK5 := hide (HK4.out.trans hk5 (by intro i hi e; have := HB.out; omega))
          clear hT5 hk5
          go_wp2
          go_roundw
          case rel => exact ⟨k + 1, c + 1, 0, by omega, by omega, by go_num, by go_num, st_fire hx.out hS.out hf.out, HT5.out, HI5.out, HK5.out⟩
          case measure => simp [intOf]; omega
        · have HTk := hide (tick_not b _ _ p wr hT.out (lI_some hx) (by rw [lT_some hx]; exact hf) s3 (by omega))
          have hx := hide hx
          have hf := hide hf
          go_wp2_with fail
          refine HTk.out.mono ?_
          rintro e w4 ⟨rfl, hk4, hT4⟩
          have HT4 := hide hT4
          have HI4 := hide (HI0.out.past HB0.out hI.out hk4)
          have HK4 := hide (hK.out.trans hk4 (by intro i hi e; have := HB.out; omega))
          clear hT4 hk4 HTk
          go_wp2
          go_roundw
          case rel => exact ⟨k + 1, c, p + 1, by omega, by omega, by go_num, rfl, st_not hx.out hS.out hf.out, HT4.out, HI4.out, HK4.out⟩
          case measure => simp [intOf]; omega
    · have hkq2 : k = q := by omega
      subst hkq2
      have hh := (st_end hc.out hS.out).symm.trans HE.out
      simp only [Prod.mk.injEq, and_true] at hh
      obtain ⟨rfl, rfl⟩ := hh
      go_wp2_with (first | (go_at_call 17; refine (at_any b _ _ _ _ _ hT.out).mono ?_; rintro e w' ⟨rfl, rfl⟩) | (go_at_call 10; refine (awake_any _).mono ?_; rintro e w' ⟨rfl, hk⟩))
      go_ret
      exact ⟨rfl, hK.out.then (by assumption)⟩
end Go.Proofs.Ytbgcglgbaekfeaa
