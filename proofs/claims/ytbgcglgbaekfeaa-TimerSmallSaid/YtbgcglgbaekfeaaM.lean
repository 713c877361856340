/-
  The walk over TimerParts. No condition.
-/
import Derived.Test.YtbgcglgbaekfeaaL
namespace Go.Proofs.Ytbgcglgbaekfeaa
open Go.RowKit
attribute [local go_sem] onto_cell onto_frozen
theorem gd_any (a : Option Addr) (n cap : Nat) (xs : List Int) (p q x e3 : Int) (f : Bool) (w : World) (h : Ints w a n xs) (he : goR xs p q = (x, f, e3)) :
    Calls Try.prog 19 #[.slice a n cap, .int .i64 p, .int .i64 q] w fun e w' => e = .returned (.tuple #[.int .i64 x, .bool f, .int .i64 e3]) ∧ Keeps Non w w' := by
  have := go_any a n cap xs p q w h
  rw [he] at this
  exact this
theorem goR_nil {p q : Int} (hp : 0 ≤ p) (hp2 : p < 1000) (hq : 0 ≤ q) : goR [] p q = (q, false, 0) := by
  have h : ¬ (q < 0 ∨ p < 0 ∨ 1000 ≤ p) := by omega
  simp only [goR, h, if_false, if_true]
  rfl
theorem goR_over {xs : List Int} {p q : Int} (hc : chk xs = 0) (hx : xs ≠ []) (hp : 0 ≤ p) (hp2 : p < 1000) (hq : 0 ≤ q) (hT : ofT xs ≤ p) : goR xs p q = (0, false, 341) := by
  have h : ¬ (q < 0 ∨ p < 0 ∨ 1000 ≤ p) := by omega
  simp [goR, hc, h, hx, hT]
theorem goR_some {xs : List Int} {p q : Int} (hc : chk xs = 0) (hx : xs ≠ []) (hp : 0 ≤ p) (hp2 : p < 1000) (hq : 0 ≤ q) (hT : ¬ ofT xs ≤ p) :
    goR xs p q = ((if ofT xs - p < q then ofT xs - p else q), decide (ofT xs - p ≤ q), 0) := by
  have h : ¬ (q < 0 ∨ p < 0 ∨ 1000 ≤ p) := by omega
  simp [goR, hc, h, hx, hT]
theorem parts_first {xs : List Int} {A B : Int} (hc : chk xs = 0) (hx : xs ≠ []) (h0 : 0 ≤ A) (h1 : A ≤ 20) (h2 : 0 ≤ B) (h3 : B ≤ 20) (hT : ofT xs ≤ A) :
    goR xs 0 A = (ofT xs, true, 0) ∧ goR xs 0 (A + B) = (ofT xs, true, 0) ∧ goR xs (ofT xs) B = (0, false, 341) := by
  have hb := ofT_bd hc hx
  refine ⟨?_, ?_, goR_over hc hx (by omega) (by omega) h2 (by omega)⟩
  · rw [goR_some hc hx (by omega) (by omega) h0 (by omega)]
    have e : decide (ofT xs - 0 ≤ A) = true := by simp; omega
    rw [e]
    congr 1
    split <;> omega
  · rw [goR_some hc hx (by omega) (by omega) (by omega) (by omega)]
    have e : decide (ofT xs - 0 ≤ A + B) = true := by simp; omega
    rw [e]
    congr 1
    split <;> omega
theorem parts_not {xs : List Int} {A B : Int} (hc : chk xs = 0) (h0 : 0 ≤ A) (h1 : A ≤ 20) (h2 : 0 ≤ B) (h3 : B ≤ 20) (hT : xs ≠ [] → ¬ ofT xs ≤ A) :
    ∃ y s, 0 ≤ y ∧ y ≤ B ∧ goR xs 0 A = (A, false, 0) ∧ goR xs 0 (A + B) = (A + y, s, 0) ∧ goR xs A B = (y, s, 0) := by
  by_cases hx : xs = []
  · subst hx
    exact ⟨B, false, h2, Int.le_refl _, goR_nil (by omega) (by omega) h0, goR_nil (by omega) (by omega) (by omega), goR_nil h0 (by omega) h2⟩
  · have hT := hT hx
    refine ⟨if ofT xs - A < B then ofT xs - A else B, decide (ofT xs - A ≤ B), by split <;> omega, by split <;> omega, ?_, ?_, goR_some hc hx h0 (by omega) h2 hT⟩
    · rw [goR_some hc hx (by omega) (by omega) h0 (by omega)]
      have e : decide (ofT xs - 0 ≤ A) = false := by simp; omega
      rw [e]
      congr 1
      split <;> omega
    · have hb := ofT_bd hc hx
      rw [goR_some hc hx (by omega) (by omega) (by omega) (by omega)]
      have e : decide (ofT xs - 0 ≤ A + B) = decide (ofT xs - A ≤ B) := by rw [decide_eq_decide]; omega
      rw [e]
      congr 1
      split <;> split <;> omega
/-- What has passed behind k ticks. -/
def Sp (xs : List Int) (k c p : Int) (f : Bool) : Prop := 0 ≤ p ∧ p ≤ k ∧ c = p ∧ (xs = [] ∧ p = k ∧ f = false ∨ xs ≠ [] ∧ (k < ofT xs ∧ p = k ∧ f = false ∨ ofT xs ≤ k ∧ p = ofT xs ∧ f = true))
theorem sp_zero {xs : List Int} (hc : chk xs = 0) : Sp xs 0 0 0 false := by
  refine ⟨by omega, by omega, rfl, ?_⟩
  by_cases hx : xs = []
  · exact .inl ⟨hx, rfl, rfl⟩
  · have := ofT_bd hc hx
    exact .inr ⟨hx, .inl ⟨by omega, rfl, rfl⟩⟩
theorem sp_end {xs : List Int} {k c p : Int} {f : Bool} (hc : chk xs = 0) (h : Sp xs k c p f) (hk : k ≤ 40) : goR xs 0 k = (p, f, 0) := by
  obtain ⟨h1, h2, h3, h4⟩ := h
  rcases h4 with ⟨rfl, rfl, rfl⟩ | ⟨hx, h5⟩
  · exact goR_nil (by omega) (by omega) h1
  · have hb := ofT_bd hc hx
    rw [goR_some hc hx (by omega) (by omega) (by omega) (by omega)]
    rcases h5 with ⟨h6, rfl, rfl⟩ | ⟨h6, rfl, rfl⟩
    · have e : decide (ofT xs - 0 ≤ p) = false := by simp; omega
      rw [e]
      congr 1
      split <;> omega
    · have e : decide (ofT xs - 0 ≤ k) = true := by simp; omega
      rw [e]
      congr 1
      split <;> omega
theorem sp_nil {xs : List Int} {k c p : Int} {f : Bool} (hx : xs = []) (h : Sp xs k c p f) : f = false ∧ Sp xs (k + 1) (c + 1) (p + 1) false := by
  obtain ⟨h1, h2, rfl, h4⟩ := h
  rcases h4 with ⟨_, rfl, rfl⟩ | ⟨hx2, _⟩
  · exact ⟨rfl, by omega, by omega, rfl, .inl ⟨hx, rfl, rfl⟩⟩
  · exact absurd hx hx2
theorem sp_over {xs : List Int} {k c p : Int} (h : Sp xs k c p true) : Sp xs (k + 1) c p true := by
  obtain ⟨h1, h2, h3, h4⟩ := h
  rcases h4 with ⟨_, _, h⟩ | ⟨hx2, ⟨_, _, h⟩ | ⟨h5, h6, _⟩⟩
  · cases h
  · cases h
  · exact ⟨h1, by omega, h3, .inr ⟨hx2, .inr ⟨by omega, h6, rfl⟩⟩⟩
theorem sp_fire {xs : List Int} {k c p : Int} (hx : xs ≠ []) (h : Sp xs k c p false) (hf : p + 1 = ofT xs) : Sp xs (k + 1) (c + 1) (ofT xs) true := by
  obtain ⟨h1, h2, rfl, h4⟩ := h
  rcases h4 with ⟨hx2, _⟩ | ⟨_, ⟨_, h5, _⟩ | ⟨_, _, h⟩⟩
  · exact absurd hx2 hx
  · exact ⟨by omega, by omega, by omega, .inr ⟨hx, .inr ⟨by omega, rfl, rfl⟩⟩⟩
  · cases h
theorem sp_not {xs : List Int} {k c p : Int} (hx : xs ≠ []) (h : Sp xs k c p false) (hf : ¬ p + 1 = ofT xs) : Sp xs (k + 1) (c + 1) (p + 1) false := by
  obtain ⟨h1, h2, rfl, h4⟩ := h
  rcases h4 with ⟨hx2, _⟩ | ⟨_, ⟨_, h5, _⟩ | ⟨_, _, h⟩⟩
  · exact absurd hx2 hx
  · exact ⟨by omega, by omega, by omega, .inr ⟨hx, .inl ⟨by omega, by omega, rfl⟩⟩⟩
  · cases h

set_option maxHeartbeats 4000000 in
theorem parts_first_walk (a : Option Addr) (n cap : Nat) (zs xs : List Int) (p q : Int) (t : Int) (ht0 : 1 ≤ t) (ht1 : t ≤ 20) (w : World)
    (hm : Calls Try.prog 11 #[.slice a n cap] w fun e w' => ∃ a' n' c', e = .returned (.slice a' n' c') ∧ Ints w' a' n' xs ∧ Keeps Non w w') (hc0 : chk xs = 0) (hp0 : 0 ≤ p) (hp1 : p ≤ 255) (hq0 : 0 ≤ q) (hq1 : q ≤ 255)
    (he1 : goR xs 0 (p % 21) = (t, true, 0)) (he2 : goR xs 0 ((p % 21) + (q % 21)) = (t, true, 0)) (he3 : goR xs t (q % 21) = (0, false, 341)) :
    Calls Try.prog 5 #[.slice a n cap, .int .u8 p, .int .u8 q] w fun e w' => e = .returned (.bool true) ∧ Keeps Non w w' := by
  have q32 := eq32
  have HC := hide hm
  have hc := hide hc0
  have HE1 := hide he1
  have HE2 := hide he2
  have HE3 := hide he3
  clear hm hc0 he1 he2 he3
  go_enter Try.func5, Try.ntmps5
  go_wp2_with fail
  refine HC.out.mono ?_
  rintro e w1 ⟨a', n', c', rfl, hI, hk⟩
  have HI := hide hI
  have HK := hide hk
  clear hk hI HC
  go_wp2_with fail
  refine (gd_any a' n' c' xs _ _ _ _ _ _ HI.out HE1.out).mono ?_
  rintro e w2 ⟨rfl, hk⟩
  have HI := hide (HI.out.non hk)
  have HK := hide (HK.out.then hk)
  clear hk
  go_wp2_with fail
  refine (gd_any a' n' c' xs _ _ _ _ _ _ HI.out HE2.out).mono ?_
  rintro e w2 ⟨rfl, hk⟩
  have HI := hide (HI.out.non hk)
  have HK := hide (HK.out.then hk)
  clear hk
  go_wp2_with fail
  refine (new_ok a' n' c' xs _ HI.out hc.out).mono ?_
  rintro e w3 ⟨b, rfl, hb, hT, hk⟩
  have HI0 := HI
  have HI := hide (HI.out.non hk)
  have HB0 := hide hb
  have HB := hide (Nat.le_trans HK.out.size hb)
  have HK := hide (HK.out.then hk)
  have HT := hide hT
  clear hk hT hb
  go_wp2_with fail
  go_loopw [67, 18] (fun i cv wr => ∃ k c p1 : Int, ∃ f : Bool, 0 ≤ k ∧ k ≤ (p % 21) + (q % 21) ∧ i = .int .i64 k ∧ cv = .int .i64 c ∧ Hid (Sp xs k c p1 f) ∧ Hid (Tim wr b (lI xs) (lT xs) p1 f) ∧ Hid (Ints wr a' n' xs) ∧ Hid (Keeps Non w wr)) (fun i _ _ => ((p % 21) + (q % 21)).toNat - (intOf i).toNat)
  case atStart => exact ⟨0, 0, 0, false, by omega, by omega, rfl, rfl, sp_zero hc.out, HT.out, HI.out, HK.out⟩
  case round =>
    obtain ⟨k, c, p1, f, hk0, hkq, rfl, rfl, hS, hT, hI, hK⟩ := hrel
    obtain ⟨s1, s2', s3, -⟩ := hS.out
    have s4 : 0 ≤ c := by omega
    have s5 : c ≤ k := by omega
    have s3 := hide s3
    by_cases hlt : k < (p % 21) + (q % 21)
    · by_cases hx : xs = []
      · obtain ⟨rfl, hS2⟩ := sp_nil hx hS.out
        have HS2 := hide hS2
        clear hS2
        have HTk := hide (tick_none b _ _ p1 wr hT.out (lI_nil hx) s1 (by omega))
        have hx := hide hx
        go_wp2_with fail
        refine HTk.out.mono ?_
        rintro e w4 ⟨rfl, hk4, hT4⟩
        have HT4 := hide hT4
        have HI4 := hide (HI0.out.past HB0.out hI.out hk4)
        have HK4 := hide (hK.out.trans hk4 (by intro i hi e; have := HB.out; omega))
        clear hT4 hk4 HTk
        go_wp2
        go_roundw
        case rel => exact ⟨k + 1, c + 1, p1 + 1, false, by omega, by omega, by go_num, by go_num, HS2.out, HT4.out, HI4.out, HK4.out⟩
        case measure => simp [intOf]; omega

      · cases f with
        | true =>
          have HS2 := hide (sp_over hS.out)
          have hx := hide hx
          go_wp2_with fail
          refine (tick_over b _ _ p1 wr hT.out).mono ?_
          rintro e w4 ⟨rfl, rfl⟩
          go_wp2
          go_roundw
          case rel => exact ⟨k + 1, c, p1, true, by omega, by omega, by go_num, by rw [s3.out], HS2.out, hT.out, hI.out, hK.out⟩
          case measure => simp [intOf]; omega
        | false =>
          by_cases hf : p1 + 1 = ofT xs
          · have HS2 := hide (sp_fire hx hS.out hf)
            have hTT := lT_some hx
            have HTk := hide (tick_fires b _ _ p1 wr hT.out (lI_some hx) (hf.trans (lT_some hx).symm) s1 (by omega))
            have hx := hide hx
            have hf := hide hf
            have hTT := hide hTT
            go_wp2_with fail
            refine HTk.out.mono ?_
            rintro e w4 ⟨rfl, hk4, hT4⟩
            have HT4 := hide hT4
            have HI4 := hide (HI0.out.past HB0.out hI.out hk4)
            have HK4 := hide (hK.out.trans hk4 (by intro i hi e; have := HB.out; omega))
            clear hT4 hk4 HTk
            go_wp2
            go_roundw
            case rel => exact ⟨k + 1, c + 1, ofT xs, true, by omega, by omega, by go_num, by go_num, HS2.out, by rw [← hTT.out]; exact HT4.out, HI4.out, HK4.out⟩
            case measure => simp [intOf]; omega

          · have HS2 := hide (sp_not hx hS.out hf)
            have HTk := hide (tick_not b _ _ p1 wr hT.out (lI_some hx) (by rw [lT_some hx]; exact hf) s1 (by omega))
            have hx := hide hx
            have hf := hide hf
            go_wp2_with fail
            refine HTk.out.mono ?_
            rintro e w4 ⟨rfl, hk4, hT4⟩
            have HT4 := hide hT4
            have HI4 := hide (HI0.out.past HB0.out hI.out hk4)
            have HK4 := hide (hK.out.trans hk4 (by intro i hi e; have := HB.out; omega))
            clear hT4 hk4 HTk
            go_wp2
            go_roundw
            case rel => exact ⟨k + 1, c + 1, p1 + 1, false, by omega, by omega, by go_num, by go_num, HS2.out, HT4.out, HI4.out, HK4.out⟩
            case measure => simp [intOf]; omega

    · have hkq2 : k = (p % 21) + (q % 21) := by omega
      subst hkq2
      have hh := (sp_end hc.out hS.out (by omega)).symm.trans HE2.out
      simp only [Prod.mk.injEq, and_true] at hh
      obtain ⟨hh1, hh2⟩ := hh
      subst hh1
      subst hh2
      have s3 := s3.out
      subst s3
      have hS := hide hS
      go_wp2_with (first | (go_at_call 17; refine (at_any b _ _ _ _ _ hT.out).mono ?_; rintro e w' ⟨rfl, rfl⟩) | (go_at_call 18; refine (fired_any b _ _ _ _ _ hT.out).mono ?_; rintro e w' ⟨rfl, rfl⟩) | (go_at_call 19; refine (gd_any a' n' c' xs _ _ _ _ _ _ hI.out HE3.out).mono ?_; rintro e w' ⟨rfl, hk⟩; have HK5 := hide (hK.out.then hk); clear hk) | (go_at_call 10; refine (awake_any _).mono ?_; rintro e w' ⟨rfl, hk⟩))
      go_ret
      exact ⟨rfl, HK5.out.then (by assumption)⟩

set_option maxHeartbeats 4000000 in
theorem parts_rest_walk (a : Option Addr) (n cap : Nat) (zs xs : List Int) (p q : Int) (y : Int) (s : Bool) (hy0 : 0 ≤ y) (hy1 : y ≤ 20) (w : World)
    (hm : Calls Try.prog 11 #[.slice a n cap] w fun e w' => ∃ a' n' c', e = .returned (.slice a' n' c') ∧ Ints w' a' n' xs ∧ Keeps Non w w') (hc0 : chk xs = 0) (hp0 : 0 ≤ p) (hp1 : p ≤ 255) (hq0 : 0 ≤ q) (hq1 : q ≤ 255)
    (he1 : goR xs 0 (p % 21) = ((p % 21), false, 0)) (he2 : goR xs 0 ((p % 21) + (q % 21)) = ((p % 21) + y, s, 0)) (he3 : goR xs (p % 21) (q % 21) = (y, s, 0)) :
    Calls Try.prog 5 #[.slice a n cap, .int .u8 p, .int .u8 q] w fun e w' => e = .returned (.bool true) ∧ Keeps Non w w' := by
  have q32 := eq32
  have HC := hide hm
  have hc := hide hc0
  have HE1 := hide he1
  have HE2 := hide he2
  have HE3 := hide he3
  clear hm hc0 he1 he2 he3
  go_enter Try.func5, Try.ntmps5
  go_wp2_with fail
  refine HC.out.mono ?_
  rintro e w1 ⟨a', n', c', rfl, hI, hk⟩
  have HI := hide hI
  have HK := hide hk
  clear hk hI HC
  go_wp2_with fail
  refine (gd_any a' n' c' xs _ _ _ _ _ _ HI.out HE1.out).mono ?_
  rintro e w2 ⟨rfl, hk⟩
  have HI := hide (HI.out.non hk)
  have HK := hide (HK.out.then hk)
  clear hk
  go_wp2_with fail
  refine (gd_any a' n' c' xs _ _ _ _ _ _ HI.out HE2.out).mono ?_
  rintro e w2 ⟨rfl, hk⟩
  have HI := hide (HI.out.non hk)
  have HK := hide (HK.out.then hk)
  clear hk
  go_wp2_with fail
  refine (new_ok a' n' c' xs _ HI.out hc.out).mono ?_
  rintro e w3 ⟨b, rfl, hb, hT, hk⟩
  have HI0 := HI
  have HI := hide (HI.out.non hk)
  have HB0 := hide hb
  have HB := hide (Nat.le_trans HK.out.size hb)
  have HK := hide (HK.out.then hk)
  have HT := hide hT
  clear hk hT hb
  go_wp2_with fail
  go_loopw [67, 18] (fun i cv wr => ∃ k c p1 : Int, ∃ f : Bool, 0 ≤ k ∧ k ≤ (p % 21) + (q % 21) ∧ i = .int .i64 k ∧ cv = .int .i64 c ∧ Hid (Sp xs k c p1 f) ∧ Hid (Tim wr b (lI xs) (lT xs) p1 f) ∧ Hid (Ints wr a' n' xs) ∧ Hid (Keeps Non w wr)) (fun i _ _ => ((p % 21) + (q % 21)).toNat - (intOf i).toNat)
  case atStart => exact ⟨0, 0, 0, false, by omega, by omega, rfl, rfl, sp_zero hc.out, HT.out, HI.out, HK.out⟩
  case round =>
    obtain ⟨k, c, p1, f, hk0, hkq, rfl, rfl, hS, hT, hI, hK⟩ := hrel
    obtain ⟨s1, s2', s3, -⟩ := hS.out
    have s4 : 0 ≤ c := by omega
    have s5 : c ≤ k := by omega
    have s3 := hide s3
    by_cases hlt : k < (p % 21) + (q % 21)
    · by_cases hx : xs = []
      · obtain ⟨rfl, hS2⟩ := sp_nil hx hS.out
        have HS2 := hide hS2
        clear hS2
        have HTk := hide (tick_none b _ _ p1 wr hT.out (lI_nil hx) s1 (by omega))
        have hx := hide hx
        go_wp2_with fail
        refine HTk.out.mono ?_
        rintro e w4 ⟨rfl, hk4, hT4⟩
        have HT4 := hide hT4
        have HI4 := hide (HI0.out.past HB0.out hI.out hk4)
        have HK4 := hide (hK.out.trans hk4 (by intro i hi e; have := HB.out; omega))
        clear hT4 hk4 HTk
        go_wp2
        go_roundw
        case rel => exact ⟨k + 1, c + 1, p1 + 1, false, by omega, by omega, by go_num, by go_num, HS2.out, HT4.out, HI4.out, HK4.out⟩
        case measure => simp [intOf]; omega

      · cases f with
        | true =>
          have HS2 := hide (sp_over hS.out)
          have hx := hide hx
          go_wp2_with fail
          refine (tick_over b _ _ p1 wr hT.out).mono ?_
          rintro e w4 ⟨rfl, rfl⟩
          go_wp2
          go_roundw
          case rel => exact ⟨k + 1, c, p1, true, by omega, by omega, by go_num, by rw [s3.out], HS2.out, hT.out, hI.out, hK.out⟩
          case measure => simp [intOf]; omega
        | false =>
          by_cases hf : p1 + 1 = ofT xs
          · have HS2 := hide (sp_fire hx hS.out hf)
            have hTT := lT_some hx
            have HTk := hide (tick_fires b _ _ p1 wr hT.out (lI_some hx) (hf.trans (lT_some hx).symm) s1 (by omega))
            have hx := hide hx
            have hf := hide hf
            have hTT := hide hTT
            go_wp2_with fail
            refine HTk.out.mono ?_
            rintro e w4 ⟨rfl, hk4, hT4⟩
            have HT4 := hide hT4
            have HI4 := hide (HI0.out.past HB0.out hI.out hk4)
            have HK4 := hide (hK.out.trans hk4 (by intro i hi e; have := HB.out; omega))
            clear hT4 hk4 HTk
            go_wp2
            go_roundw
            case rel => exact ⟨k + 1, c + 1, ofT xs, true, by omega, by omega, by go_num, by go_num, HS2.out, by rw [← hTT.out]; exact HT4.out, HI4.out, HK4.out⟩
            case measure => simp [intOf]; omega

          · have HS2 := hide (sp_not hx hS.out hf)
            have HTk := hide (tick_not b _ _ p1 wr hT.out (lI_some hx) (by rw [lT_some hx]; exact hf) s1 (by omega))
            have hx := hide hx
            have hf := hide hf
            go_wp2_with fail
            refine HTk.out.mono ?_
            rintro e w4 ⟨rfl, hk4, hT4⟩
            have HT4 := hide hT4
            have HI4 := hide (HI0.out.past HB0.out hI.out hk4)
            have HK4 := hide (hK.out.trans hk4 (by intro i hi e; have := HB.out; omega))
            clear hT4 hk4 HTk
            go_wp2
            go_roundw
            case rel => exact ⟨k + 1, c + 1, p1 + 1, false, by omega, by omega, by go_num, by go_num, HS2.out, HT4.out, HI4.out, HK4.out⟩
            case measure => simp [intOf]; omega

    · have hkq2 : k = (p % 21) + (q % 21) := by omega
      subst hkq2
      have hh := (sp_end hc.out hS.out (by omega)).symm.trans HE2.out
      simp only [Prod.mk.injEq, and_true] at hh
      obtain ⟨hh1, hh2⟩ := hh
      subst hh1
      subst hh2
      have s3 := s3.out
      subst s3
      have hS := hide hS
      go_wp2_with (first | (go_at_call 17; refine (at_any b _ _ _ _ _ hT.out).mono ?_; rintro e w' ⟨rfl, rfl⟩) | (go_at_call 18; refine (fired_any b _ _ _ _ _ hT.out).mono ?_; rintro e w' ⟨rfl, rfl⟩) | (go_at_call 19; refine (gd_any a' n' c' xs _ _ _ _ _ _ hI.out HE3.out).mono ?_; rintro e w' ⟨rfl, hk⟩; have HK5 := hide (hK.out.then hk); clear hk) | (go_at_call 10; refine (awake_any _).mono ?_; rintro e w' ⟨rfl, hk⟩))
      go_ret
      exact ⟨rfl, HK5.out.then (by assumption)⟩

theorem law_parts (a : Option Addr) (n cap : Nat) (zs : List Int) (p q : Int) (w : World) (h : Byts w a n zs) (hr : n ≤ cap ∧ cap ≤ 9223372036854775807) (h0 : a = none → cap = 0) (hp0 : 0 ≤ p) (hp1 : p ≤ 255) (hq0 : 0 ≤ q) (hq1 : q ≤ 255) :
    Calls Try.prog 5 #[.slice a n cap, .int .u8 p, .int .u8 q] w fun e w' => e = .returned (.bool true) ∧ Keeps Non w w' := by
  have hc := made_chk zs
  by_cases hx : made zs ≠ [] ∧ ofT (made zs) ≤ p % 21
  · obtain ⟨hx, hT⟩ := hx
    have hb := ofT_bd hc hx
    obtain ⟨e1, e2, e3⟩ := parts_first (B := q % 21) hc hx (by omega) (by omega) (by omega) (by omega) hT
    exact parts_first_walk a n cap zs (made zs) p q _ hb.1 (by omega) w (made_any a n cap zs w h hr h0) hc hp0 hp1 hq0 hq1 e1 e2 e3
  · obtain ⟨y, s, y0, y1, e1, e2, e3⟩ := parts_not (A := p % 21) (B := q % 21) hc (by omega) (by omega) (by omega) (by omega) (fun h1 h2 => hx ⟨h1, h2⟩)
    exact parts_rest_walk a n cap zs (made zs) p q y s y0 (by omega) w (made_any a n cap zs w h hr h0) hc hp0 hp1 hq0 hq1 e1 e2 e3
end Go.Proofs.Ytbgcglgbaekfeaa
