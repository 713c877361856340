/-
  The walk over TimerLeast, where there is a timeout. No condition.
-/
import Derived.Test.YtbgcglgbaekfeaaM
namespace Go.Proofs.Ytbgcglgbaekfeaa
open Go.RowKit
attribute [local go_sem] onto_cell onto_frozen
theorem dnn (r : Nat) : decide ((r : Int) < 0) = false := by simp
attribute [local go_sem] dnn
theorem first_some (a : Option Addr) (n cap : Nat) (xs : List Int) (w : World) (h : Ints w a n xs) (hc : chk xs = 0) (hx : xs ≠ []) :
    Calls Try.prog 12 #[.slice a n cap] w fun e w' => e = .returned (.tuple #[.int .i64 (ofI xs), .bool true, .int .i64 0]) ∧ Keeps Non w w' := by
  have := first_ok a n cap xs w h (by simp [hc])
  rw [if_neg hx, show decide (xs ≠ []) = true by simpa using hx] at this
  exact this
theorem first_nil (a : Option Addr) (n cap : Nat) (w : World) (h : Ints w a n []) :
    Calls Try.prog 12 #[.slice a n cap] w fun e w' => e = .returned (.tuple #[.int .i64 0, .bool false, .int .i64 0]) ∧ Keeps Non w w' := by
  have := first_ok a n cap [] w h (by decide)
  simpa using this
theorem only_some (a : Option Addr) (n cap : Nat) (xs : List Int) (w : World) (h : Ints w a n xs) (hc : chk xs = 0) (hx : xs ≠ []) :
    Calls Try.prog 13 #[.slice a n cap] w fun e w' => ∃ a' c', e = .returned (.tuple #[.slice a' 1 c', .int .i64 0]) ∧ Ints w' a' 1 [ofT xs] ∧ Keeps Non w w' := by
  refine (only_ok a n cap xs w h hc).mono ?_
  rintro e w' ⟨a', n', c', rfl, hI, hk⟩
  rw [show onlyL xs = [ofT xs] by simp [onlyL, hx]] at hI
  obtain rfl : n' = 1 := hI.len.symm
  exact ⟨a', c', rfl, hI, hk⟩
theorem only_nil (a : Option Addr) (n cap : Nat) (w : World) (h : Ints w a n []) :
    Calls Try.prog 13 #[.slice a n cap] w fun e w' => ∃ a' c', e = .returned (.tuple #[.slice a' 0 c', .int .i64 0]) ∧ Ints w' a' 0 [] ∧ Keeps Non w w' := by
  refine (only_ok a n cap [] w h (by decide)).mono ?_
  rintro e w' ⟨a', n', c', rfl, hI, hk⟩
  rw [show onlyL [] = [] by simp [onlyL]] at hI
  obtain rfl : n' = 0 := hI.len.symm
  exact ⟨a', c', rfl, hI, hk⟩
theorem chk_one {t : Int} (h : 1 ≤ t ∧ t ≤ 1000) : chk [t] = 0 := by
  refine chk_good (by simp) (fun i hi => ?_)
  simp at hi
  subst hi
  simpa using h
theorem lI_one (t : Int) : lI [t] = 0 := by
  simp [lI, ofI, ofK]
theorem lT_one (t : Int) : lT [t] = t := by
  simp [lT, ofT, ofI, ofK]
theorem new_one (a : Option Addr) (cap : Nat) (t : Int) (w : World) (h : Ints w a 1 [t]) (ht : 1 ≤ t ∧ t ≤ 1000) :
    Calls Try.prog 14 #[.slice a 1 cap] w fun e w' => ∃ b, e = .returned (.tuple #[.pointer (some ⟨b, 0, none⟩), .int .i64 0]) ∧ w.heap.size ≤ b ∧ Tim w' b 0 t 0 false ∧ Keeps Non w w' := by
  have := new_ok a 1 cap [t] w h (chk_one ht)
  rw [lI_one, lT_one] at this
  exact this
theorem new_some (a : Option Addr) (n cap : Nat) (xs : List Int) (w : World) (h : Ints w a n xs) (hc : chk xs = 0) (hx : xs ≠ []) :
    Calls Try.prog 14 #[.slice a n cap] w fun e w' => ∃ b, e = .returned (.tuple #[.pointer (some ⟨b, 0, none⟩), .int .i64 0]) ∧ w.heap.size ≤ b ∧ Tim w' b (ofI xs) (ofT xs) 0 false ∧ Keeps Non w w' := by
  have := new_ok a n cap xs w h hc
  rw [show lI xs = ofI xs by simp [lI, hx], show lT xs = ofT xs by simp [lT, hx]] at this
  exact this
theorem Tim.past {w w' : World} {b c : Nat} {i t p : Int} {f : Bool} (h : Tim w b i t p f) (k : Keeps (· = c) w w') (hn : b ≠ c) : Tim w' b i t p f := Blk.keeps h k hn

set_option pp.deepTerms true in
set_option maxHeartbeats 8000000 in
set_option maxRecDepth 100000 in
theorem least_some_walk (a : Option Addr) (n cap : Nat) (xs : List Int) (q : Int) (w : World)
    (hm : Calls Try.prog 11 #[.slice a n cap] w fun e w' => ∃ a' n' c', e = .returned (.slice a' n' c') ∧ Ints w' a' n' xs ∧ Keeps Non w w') (hc0 : chk xs = 0) (hx0 : xs ≠ []) (hq0 : 0 ≤ q) (hq1 : q ≤ 255) :
    Calls Try.prog 4 #[.slice a n cap, .int .u8 q] w fun e w' => e = .returned (.bool true) ∧ Keeps Non w w' := by
  have q32 := eq32
  have HC := hide hm
  have hc := hide hc0
  have hx := hide hx0
  obtain ⟨t1, t2⟩ := ofT_bd hc0 hx0
  have hIlt := ofI_lt hx0
  have hle : Hid (∀ j, j < xs.length → ofT xs ≤ xs.getD j 0) := fun j hj => ofK_le xs xs.length j hj
  have hfst : Hid (∀ j, j < ofI xs → ofT xs < xs.getD j 0) := fun j hj => ofK_first xs xs.length j hj
  have hTI : Hid (xs.getD (ofI xs) 0 = ofT xs) := rfl
  have HF := hide (fun a n cap w h => first_some a n cap xs w h hc0 hx0)
  have HO := hide (fun a n cap w h => only_some a n cap xs w h hc0 hx0)
  have HN := hide (fun a n cap w h => new_some a n cap xs w h hc0 hx0)
  clear hm hc0 hx0
  generalize ofT xs = t at t1 t2 hle hfst HO HN hTI
  generalize ofI xs = r at hIlt hfst HF HN hTI
  go_enter Try.func4, Try.ntmps4
  go_wp2_with fail
  refine HC.out.mono ?_
  rintro e w1 ⟨a', n', c', rfl, hI, hk⟩
  have hlen : xs.length = n' := hI.len
  have hbig := hI.big
  have HI := hide hI
  have HK := hide hk
  clear hk hI HC
  go_wp2_with fail
  refine (HF.out a' n' c' _ HI.out).mono ?_
  rintro e w2 ⟨rfl, hk⟩
  have HI := hide (HI.out.non hk)
  have HK := hide (HK.out.then hk)
  clear hk
  go_wp2_with fail
  refine (HO.out a' n' c' _ HI.out).mono ?_
  rintro e w3 ⟨a2, c2, rfl, hI2, hk⟩
  have HI := hide (HI.out.non hk)
  have HI2 := hide hI2
  have HK := hide (HK.out.then hk)
  clear hk hI2
  go_wp2_with fail
  refine (HN.out a' n' c' _ HI.out).mono ?_
  rintro e w4 ⟨b, rfl, hb, hT, hk⟩
  have HI := hide (HI.out.non hk)
  have HI2 := hide (HI2.out.non hk)
  have HB := hide (Nat.le_trans HK.out.size hb)
  have HK := hide (HK.out.then hk)
  have HT := hide hT
  have HBL := hide (Blk.lt hT)
  clear hk hT hb
  go_wp2_with fail
  refine (new_one a2 c2 t _ HI2.out ⟨t1, t2⟩).mono ?_
  rintro e w5 ⟨b2, rfl, hb, hT, hk⟩
  have HI := hide (HI.out.non hk)
  have HI2 := hide (HI2.out.non hk)
  have HB2 := hide (Nat.le_trans HK.out.size hb)
  have HBN : Hid (b ≠ b2) := by have := HBL.out; unfold Hid; omega
  have HK := hide (HK.out.then hk)
  have HT1 := hide (Blk.keeps HT.out hk id)
  have HT2 := hide hT
  clear hk hT hb HBL HT
  obtain ⟨ab, ao, rfl, hab, hcl⟩ := HI.out.at (by omega)
  obtain ⟨ob, oo, rfl, hob, hocl⟩ := HI2.out.at (by omega)
  have cr := hcl r (by omega)
  have c0 := hocl 0 (by omega)
  rw [hTI.out] at cr
  simp only [Nat.add_zero, List.getD_cons_zero] at c0
  have z0 : (0 : Int) ≤ (r : Int) := by omega
  have z1 : (r : Int) < (n' : Int) := by omega
  have z2 : (0 : Int) < (n' : Int) := by omega
  have z7 : ¬ (r : Int) < 0 := by omega
  have z3 : 0 < n' := by omega
  have z4 : r < n' := by omega
  have z5 : ¬ n' ≤ r := by omega
  have z6 : ¬ (n' : Int) ≤ (r : Int) := by omega
  clear hcl hocl
  go_wp2_with fail
  refine wp_region_onto (by kernel_rfl) (by kernel_rfl) ?_
  repeat (go_big_quiet_step (fail))
  refine wpQuiet_nil ?_
  rintro _ ⟨u, rfl⟩
  have K6 : Keeps Non w5 (onto w5 u) := onto_keeps _ _
  generalize onto w5 u = w6 at K6
  have HI := hide (HI.out.non K6)
  have HI2 := hide (HI2.out.non K6)
  have HK := hide (HK.out.then K6)
  have HT1 := hide (Blk.keeps HT1.out K6 id)
  have HT2 := hide (Blk.keeps HT2.out K6 id)
  have cr6 : w6.cell? ⟨ab, ao + r, none⟩ = some (.int .i64 t) := (K6.cell (p := ⟨ab, ao + r, none⟩) hab id).trans cr
  have hab6 := Nat.lt_of_lt_of_le hab K6.size
  clear K6 cr c0 hob
  go_wp2_with fail
  go_loop [105] (fun i => ∃ k : Nat, k ≤ n' ∧ i = .int .i64 k) (fun i => n' - (intOf i).toNat)
  case atStart => exact ⟨0, Nat.zero_le _, rfl⟩
  case round =>
    obtain ⟨k, hk, rfl⟩ := hrel
    by_cases hlt : k < n'
    · obtain ⟨ab', ao', hae, _, hcl⟩ := HI.out.at (by omega)
      cases hae
      have ck := hcl k hlt
      obtain ⟨x, hx⟩ : ∃ x, xs.getD k 0 = x := ⟨_, rfl⟩
      have g1 := hle.out k (by omega)
      rw [hx] at ck g1
      have y0 : (0 : Int) ≤ (k : Int) := by omega
      have y1 : (k : Int) < (n' : Int) := by omega
      have g2 : ¬ x < t := by omega
      by_cases hkr : k < r
      · have g3 := hfst.out k hkr
        rw [hx] at g3
        have g4 : ¬ x = t := by omega
        have y2 : (k : Int) < (r : Int) := by omega
        clear hcl hx
        go_wp2
        go_round
        case rel => exact ⟨k + 1, by omega, by go_num⟩
        case measure => simp [intOf]; omega
      · have y2 : ¬ (k : Int) < (r : Int) := by omega
        clear hcl hx
        go_wp2
        go_round
        case rel => exact ⟨k + 1, by omega, by go_num⟩
        case measure => simp [intOf]; omega
    · clear cr6
      go_wp2_with fail
      go_loopw [132] (fun i wr => ∃ k p : Int, ∃ f : Bool, 0 ≤ k ∧ k ≤ q % 41 ∧ i = .int .u8 k ∧ 0 ≤ p ∧ p ≤ k ∧ (f = false → p < t) ∧ Hid (Tim wr b r t p f) ∧ Hid (Tim wr b2 0 t p f) ∧ Hid (Keeps Non w wr)) (fun i _ => (q % 41).toNat - (intOf i).toNat)
      case atStart => exact ⟨0, 0, false, by omega, by omega, rfl, by omega, by omega, fun _ => by omega, HT1.out, HT2.out, HK.out⟩
      case round =>
        obtain ⟨k, p, f, hk0, hkq, rfl, hp0, hpk, hpt, hTA, hTB, hK⟩ := hrel
        have z8 : (0 : Int) ≤ (r : Int) := by omega
        by_cases hlt2 : k < q % 41
        · cases f with
          | true =>
            clear hpt
            go_wp2_with fail
            refine (tick_over b _ _ p _ hTA.out).mono ?_
            rintro e vA ⟨rfl, rfl⟩
            go_wp2_with fail
            refine (tick_over b2 _ _ p _ hTB.out).mono ?_
            rintro e vB ⟨rfl, rfl⟩
            have hTA2 := hTA
            have hTB2 := hTB
            have hK2 := hK
            go_wp2_with fail
            refine (left_none b _ _ _ _ true hTA2.out (.inr rfl)).mono ?_
            rintro e vC ⟨rfl, hk⟩
            have hTA3 := hide (Blk.keeps hTA2.out hk id)
            have hTB3 := hide (Blk.keeps hTB2.out hk id)
            have hK3 := hide (hK2.out.then hk)
            clear hk
            go_wp2_with fail
            refine (left_none b2 _ _ _ _ true hTB3.out (.inr rfl)).mono ?_
            rintro e vD ⟨rfl, hk⟩
            have hTA4 := hide (Blk.keeps hTA3.out hk id)
            have hTB4 := hide (Blk.keeps hTB3.out hk id)
            have hK4 := hide (hK3.out.then hk)
            clear hk
            go_wp2_with fail
            refine (at_any b _ _ _ _ _ hTA4.out).mono ?_
            rintro e vE ⟨rfl, rfl⟩
            go_wp2_with fail
            refine (at_any b2 _ _ _ _ _ hTB4.out).mono ?_
            rintro e vF ⟨rfl, rfl⟩
            go_wp2_with fail
            refine (fired_any b _ _ _ _ _ hTA4.out).mono ?_
            rintro e vG ⟨rfl, rfl⟩
            go_wp2_with fail
            refine (fired_any b2 _ _ _ _ _ hTB4.out).mono ?_
            rintro e vH ⟨rfl, rfl⟩
            go_wp2
            go_roundw
            case rel => exact ⟨k + 1, p, true, by omega, by omega, by go_num, by omega, by omega, (by intro h; cases h), hTA4.out, hTB4.out, hK4.out⟩
            case measure => simp [intOf]; omega
          | false =>
            have hpt := hpt rfl
            by_cases hf0 : p + 1 = t
            · have hf := hide hf0
              clear hf0
              go_wp2_with fail
              refine (tick_fires b _ t p _ hTA.out z8 hf.out hp0 (by omega)).mono ?_
              rintro e vA ⟨rfl, hk, hT⟩
              have hTA2 := hide hT
              have hTB1 := hide (hTB.out.past hk HBN.out.symm)
              have hK1 := hide (hK.out.trans hk (by intro i hi e; have := HB.out; omega))
              clear hk hT
              go_wp2_with fail
              refine (tick_fires b2 0 t p _ hTB1.out (by decide) hf.out hp0 (by omega)).mono ?_
              rintro e vB ⟨rfl, hk, hT⟩
              have hTB2 := hide hT
              have hTA2 := hide (hTA2.out.past hk HBN.out)
              have hK2 := hide (hK1.out.trans hk (by intro i hi e; have := HB2.out; omega))
              clear hk hT
              go_wp2_with fail
              refine (left_none b _ _ _ _ true hTA2.out (.inr rfl)).mono ?_
              rintro e vC ⟨rfl, hk⟩
              have hTA3 := hide (Blk.keeps hTA2.out hk id)
              have hTB3 := hide (Blk.keeps hTB2.out hk id)
              have hK3 := hide (hK2.out.then hk)
              clear hk
              go_wp2_with fail
              refine (left_none b2 _ _ _ _ true hTB3.out (.inr rfl)).mono ?_
              rintro e vD ⟨rfl, hk⟩
              have hTA4 := hide (Blk.keeps hTA3.out hk id)
              have hTB4 := hide (Blk.keeps hTB3.out hk id)
              have hK4 := hide (hK3.out.then hk)
              clear hk
              go_wp2_with fail
              refine (at_any b _ _ _ _ _ hTA4.out).mono ?_
              rintro e vE ⟨rfl, rfl⟩
              go_wp2_with fail
              refine (at_any b2 _ _ _ _ _ hTB4.out).mono ?_
              rintro e vF ⟨rfl, rfl⟩
              go_wp2_with fail
              refine (fired_any b _ _ _ _ _ hTA4.out).mono ?_
              rintro e vG ⟨rfl, rfl⟩
              go_wp2_with fail
              refine (fired_any b2 _ _ _ _ _ hTB4.out).mono ?_
              rintro e vH ⟨rfl, rfl⟩
              go_wp2
              go_roundw
              case rel => exact ⟨k + 1, t, true, by omega, by omega, by go_num, by omega, (by have := hf.out; omega), (by intro h; cases h), hTA4.out, hTB4.out, hK4.out⟩
              case measure => simp [intOf]; omega
            · have hf := hide hf0
              clear hf0
              have hpt2 : p + 1 < t := by have := hf.out; omega
              go_wp2_with fail
              refine (tick_not b _ t p _ hTA.out z8 hf.out hp0 (by omega)).mono ?_
              rintro e vA ⟨rfl, hk, hT⟩
              have hTA2 := hide hT
              have hTB1 := hide (hTB.out.past hk HBN.out.symm)
              have hK1 := hide (hK.out.trans hk (by intro i hi e; have := HB.out; omega))
              clear hk hT
              go_wp2_with fail
              refine (tick_not b2 0 t p _ hTB1.out (by decide) hf.out hp0 (by omega)).mono ?_
              rintro e vB ⟨rfl, hk, hT⟩
              have hTB2 := hide hT
              have hTA2 := hide (hTA2.out.past hk HBN.out)
              have hK2 := hide (hK1.out.trans hk (by intro i hi e; have := HB2.out; omega))
              clear hk hT
              go_wp2_with fail
              refine (left_some b _ t (p + 1) _ hTA2.out z8 (by omega) (by omega) (by omega)).mono ?_
              rintro e vC ⟨rfl, hk⟩
              have hTA3 := hide (Blk.keeps hTA2.out hk id)
              have hTB3 := hide (Blk.keeps hTB2.out hk id)
              have hK3 := hide (hK2.out.then hk)
              clear hk
              go_wp2_with fail
              refine (left_some b2 _ t (p + 1) _ hTB3.out (by decide) (by omega) (by omega) (by omega)).mono ?_
              rintro e vD ⟨rfl, hk⟩
              have hTA4 := hide (Blk.keeps hTA3.out hk id)
              have hTB4 := hide (Blk.keeps hTB3.out hk id)
              have hK4 := hide (hK3.out.then hk)
              clear hk
              go_wp2_with fail
              refine (at_any b _ _ _ _ _ hTA4.out).mono ?_
              rintro e vE ⟨rfl, rfl⟩
              go_wp2_with fail
              refine (at_any b2 _ _ _ _ _ hTB4.out).mono ?_
              rintro e vF ⟨rfl, rfl⟩
              go_wp2_with fail
              refine (fired_any b _ _ _ _ _ hTA4.out).mono ?_
              rintro e vG ⟨rfl, rfl⟩
              go_wp2_with fail
              refine (fired_any b2 _ _ _ _ _ hTB4.out).mono ?_
              rintro e vH ⟨rfl, rfl⟩
              go_wp2
              go_roundw
              case rel => exact ⟨k + 1, (p + 1), false, by omega, by omega, by go_num, by omega, by omega, (by intro _; omega), hTA4.out, hTB4.out, hK4.out⟩
              case measure => simp [intOf]; omega
        · clear hpt
          go_wp2_with (first | (go_at_call 10; refine (awake_any _).mono ?_; rintro e w' ⟨rfl, hk⟩))
          go_ret
          exact ⟨rfl, hK.out.then (by assumption)⟩
end Go.Proofs.Ytbgcglgbaekfeaa
