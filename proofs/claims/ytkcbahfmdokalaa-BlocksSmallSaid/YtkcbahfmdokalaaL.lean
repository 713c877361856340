/-
  Walks over layer 6: Refine, Stable, Coarsest. No condition.
-/
import Derived.Test.YtkcbahfmdokalaaK
import Derived.WalkMore
namespace Go.Proofs.Ytkcbahfmdokalaa
open Go.RowKit
attribute [local go_sem] onto_cell onto_frozen
set_option linter.unusedVariables false
theorem wrongE_ok {p : List Int} {next : List (List Int)} (h : wrongE p next = 0) : rightB p = true ∧ NextOk p.length next := by
  unfold wrongE at h
  split at h
  · rename_i hr
    split at h
    · omega
    · rename_i hn
      simp only [ne_eq, not_or, Decidable.not_not, Bool.not_eq_true] at hn
      refine ⟨hr, hn.1, fun l hl => ?_⟩
      have h2 := List.any_eq_false.1 hn.2 l hl
      unfold badL at h2
      simp only [Bool.or_eq_true, decide_eq_true_eq, not_or, List.any_eq_true, not_exists, not_and] at h2
      refine ⟨by omega, fun x hx => ?_⟩
      have h3 := h2.2 x hx
      unfold badB at h3
      simp only [Bool.or_eq_true, decide_eq_true_eq, not_or] at h3
      omega
  · omega
theorem wrongE_of {p : List Int} {next : List (List Int)} (h : rightB p = true) (hn : NextOk p.length next) : wrongE p next = 0 := by
  unfold wrongE
  rw [if_pos h, if_neg]
  rintro (h1 | h1)
  · exact h1 hn.1
  · obtain ⟨l, hl, h2⟩ := List.any_eq_true.1 h1
    obtain ⟨h3, h4⟩ := hn.2 l hl
    unfold badL at h2
    simp only [Bool.or_eq_true, decide_eq_true_eq, List.any_eq_true] at h2
    rcases h2 with h2 | ⟨x, hx, h2⟩
    · omega
    · have := h4 x hx
      unfold badB at h2
      simp only [Bool.or_eq_true, decide_eq_true_eq] at h2
      omega
theorem refine_yes (a b : Option Addr) (n cap m cap2 : Nat) (p : List Int) (next : List (List Int)) (w : World) (h : Ints w a n p) (h2 : Rows w b m next) (hg : Good p) (he : wrongE p next = 0) :
    Calls Try.prog 35 #[.slice a n cap, .slice b m cap2] w fun e w' => ∃ v, e = .returned (.tuple #[v, .int .i64 0]) ∧ NewInts w w' v (refineL p next) := by
  have HW := wrong_l a b n cap m cap2 p next w h h2 hg
  rw [he] at HW
  have HW2 := hide HW
  obtain ⟨hr, hno⟩ := wrongE_ok he
  have hl := h.len
  have hl2 := h2.len
  have HR : Hid (∀ w', Keeps Non w w' → Calls Try.prog 54 #[.slice a n cap, .slice b m cap2] w' fun e w2 => ∃ v, e = .returned v ∧ NewInts w' w2 v (refineL p next)) := fun w' hk =>
    refine_l a b n cap m cap2 p next w' (h.non hk) (h2.non hk) hg (by rw [← hl, ← hl2]; exact hno.1.symm) (by have := (rightB_iff.1 hr).1; omega) (by rw [← hl]; exact hno)
  clear HW h h2 hg he hr hno hl hl2
  go_enter Try.func35, Try.ntmps35
  go_wp2_with fail
  refine HW2.out.mono ?_
  rintro e w2 ⟨rfl, hk⟩
  have HK := hide hk
  have HR2 := hide (HR.out w2 hk)
  clear hk HR
  go_wp2_with fail
  refine HR2.out.mono ?_
  rintro e w3 ⟨v, rfl, g, hv, hg, hB, hk3⟩
  have HV := hide (And.intro hv hB)
  have HK3 := hide (HK.out.then hk3)
  have HS : Hid (w.heap.size ≤ g) := Nat.le_trans HK.out.size hg
  clear hv hB hk3 hg
  go_wp2_with fail
  go_ret2
  exact ⟨_, rfl, g, HV.out.1, HS.out, HV.out.2, HK3.out⟩
theorem refine_no (a b : Option Addr) (n cap m cap2 : Nat) (p : List Int) (next : List (List Int)) (w : World) (h : Ints w a n p) (h2 : Rows w b m next) (hg : Good p) (x : Int) (he : wrongE p next = x) (hx : x ≠ 0) :
    Calls Try.prog 35 #[.slice a n cap, .slice b m cap2] w fun e w' => e = .returned (.tuple #[.slice none 0 0, .int .i64 x]) ∧ Keeps Non w w' := by
  have HW := wrong_l a b n cap m cap2 p next w h h2 hg
  rw [he] at HW
  have HW2 := hide HW
  clear HW h h2 hg he
  go_enter Try.func35, Try.ntmps35
  go_wp2_with fail
  refine HW2.out.mono ?_
  rintro e w2 ⟨rfl, hk⟩
  go_wp2_with fail
  go_ret2
  exact ⟨rfl, hk⟩
theorem stable_yes (a b : Option Addr) (n cap m cap2 : Nat) (p : List Int) (next : List (List Int)) (w : World) (h : Ints w a n p) (h2 : Rows w b m next) (hg : Good p) (he : wrongE p next = 0) :
    Calls Try.prog 29 #[.slice a n cap, .slice b m cap2] w fun e w' => e = .returned (.tuple #[.bool (decide (refineL p next = p)), .int .i64 0]) ∧ Keeps Non w w' := by
  have HM := hide (refine_yes a b n cap m cap2 p next w h h2 hg he)
  have hno := (wrongE_ok he).2
  have HE : Hid (∀ g w2, Blk w2 g ((refineL p next).map (Value.int .i64)) 3 → Keeps Non w w2 → Calls Try.prog 19 #[.slice (some ⟨g, 0, none⟩) (refineL p next).length (refineL p next).length, .slice a n cap] w2 fun e w3 => e = .returned (.bool (decide (refineL p next = p))) ∧ Keeps Non w2 w3) := by
    intro g w2 hb hk
    have hl : (refineL p next).length ≤ 17592186044416 := by
      have := h.big
      have := h.len
      rw [refineL_length hno.1]
      omega
    exact equal_any _ _ _ _ _ _ _ _ _ (ints_of_blk hb hl) (h.non hk)
  obtain ⟨v, hv⟩ : ∃ v, decide (refineL p next = p) = v := ⟨_, rfl⟩
  rw [hv] at HE ⊢
  obtain ⟨l, hl⟩ : ∃ l, (refineL p next).length = l := ⟨_, rfl⟩
  have HL := hide hl
  rw [hl] at HE
  clear h h2 hg he hv hl hno
  go_enter Try.func29, Try.ntmps29
  go_wp2_with fail
  refine HM.out.mono ?_
  rintro e w2 ⟨_, rfl, g, rfl, hg, hB, hk⟩
  rw [HL.out]
  have HE2 := hide (HE.out g w2 hB hk)
  have HK := hide hk
  clear HE hB hk hg HM
  go_wp2_with fail
  refine HE2.out.mono ?_
  rintro e w3 ⟨rfl, hk3⟩
  go_wp2_with fail
  go_ret2
  exact ⟨rfl, HK.out.then hk3⟩
theorem stable_no (a b : Option Addr) (n cap m cap2 : Nat) (p : List Int) (next : List (List Int)) (w : World) (h : Ints w a n p) (h2 : Rows w b m next) (hg : Good p) (x : Int) (he : wrongE p next = x) (hx : x ≠ 0) :
    Calls Try.prog 29 #[.slice a n cap, .slice b m cap2] w fun e w' => e = .returned (.tuple #[.bool false, .int .i64 x]) ∧ Keeps Non w w' := by
  have HM := hide (refine_no a b n cap m cap2 p next w h h2 hg x he hx)
  have hx2 : (x == 0) = false := by simpa using hx
  clear h h2 hg he
  go_enter Try.func29, Try.ntmps29
  go_wp2_with fail
  refine HM.out.mono ?_
  rintro e w2 ⟨rfl, hk⟩
  go_wp2_with fail
  go_ret2
  exact ⟨rfl, hk⟩
/-- A slice that reads xs, whosever it is. -/
def GotInts (w w' : World) (v : Value) (xs : List Int) : Prop := ∃ a cap, v = .slice a xs.length cap ∧ Ints w' a xs.length xs ∧ Keeps Non w w'
theorem clone_l (a : Option Addr) (n cap : Nat) (xs : List Int) (w : World) (h : Ints w a n xs) (hn : n ≤ 1000000) :
    Calls Try.prog 15 #[.slice a n cap] w fun e w' => ∃ v, e = .returned v ∧ GotInts w w' v xs := by
  obtain rfl := h.len
  cases a with
  | none =>
    have h0 : xs.length = 0 := by
      rcases h.cell with h1 | ⟨b, off, h1, _⟩
      · exact h1
      · cases h1
    refine (Try.slices_Clone_int_nil xs.length cap w).mono ?_
    rintro e w' ⟨rfl, rfl⟩
    have hx : xs = [] := List.eq_nil_of_length_eq_zero h0
    subst hx
    exact ⟨_, rfl, none, 0, rfl, Ints.nil _ _, Keeps.refl _ _⟩
  | some ad =>
    by_cases h0 : xs.length = 0
    · have hx : xs = [] := List.eq_nil_of_length_eq_zero h0
      subst hx
      refine (Try.slices_Clone_int_zero ad cap w).mono ?_
      rintro e w' ⟨v, rfl, ho, _, hb⟩
      obtain ⟨a2, c2, rfl, hI⟩ := ints_of_owns (xs := []) ho (by omega)
      exact ⟨_, rfl, a2, c2, rfl, hI, Keeps.of_below Non hb⟩
    · obtain ⟨b, off, hab, hb, hc⟩ := h.at (by omega)
      cases hab
      refine (Try.slices_Clone_int b off xs.length cap xs w (Nat.le_refl _) (by omega) (fun j hj => hc j hj)).mono ?_
      rintro e w' ⟨v, rfl, ho, _, hbl⟩
      rw [List.take_length] at ho
      obtain ⟨a2, c2, rfl, hI⟩ := ints_of_owns ho (by omega)
      exact ⟨_, rfl, a2, c2, rfl, hI, Keeps.of_below Non hbl⟩
theorem coarseGo_len (next : List (List Int)) : ∀ (f : Nat) (p : List Int) (c : Nat), next.length = p.length → (coarseGo next f p c).1.length = p.length
  | 0, p, c, _ => rfl
  | f + 1, p, c, hl => by
    unfold coarseGo
    split
    · rfl
    · have hr := refineL_length (p := p) hl
      rw [coarseGo_len next f (refineL p next) (c + 1) (by omega), hr]
/-- What Coarsest returns. -/
def CoP (w : World) (p : List Int) (next : List (List Int)) (e : Ending) (w' : World) : Prop := ∃ v, e = .returned (.tuple #[v, .int .i64 (coarseL p next).2, .int .i64 0]) ∧ GotInts w w' v (coarseL p next).1
set_option maxHeartbeats 2000000 in
theorem coarsest_yes (a b : Option Addr) (n cap m cap2 : Nat) (p : List Int) (next : List (List Int)) (w : World) (h : Ints w a n p) (h2 : Rows w b m next) (hg : Good p) (he : wrongE p next = 0) :
    Calls Try.prog 27 #[.slice a n cap, .slice b m cap2] w (CoP w p next) := by
  have HW := wrong_l a b n cap m cap2 p next w h h2 hg
  rw [he] at HW
  have HW2 := hide HW
  obtain ⟨hr, hno⟩ := wrongE_ok he
  obtain rfl := h.len
  have hl2 := h2.len
  have hp := rightB_iff.1 hr
  obtain rfl : p.length = m := by rw [← hl2]; exact hno.1.symm
  have HC : Hid (∀ w', Keeps Non w w' → Calls Try.prog 15 #[.slice a p.length cap] w' fun e w2 => ∃ v, e = .returned v ∧ GotInts w' w2 v p) := fun w' hk => clone_l a p.length cap p w' (h.non hk) (by omega)
  have HNo := hide hno
  have HY := hide h2
  have HP := hide hp.2
  obtain ⟨n, hn⟩ : ∃ n, p.length = n := ⟨_, rfl⟩
  have hn2 : n ≤ 1024 := by omega
  have HN := hide hn
  rw [hn] at HNo HY HW2 HC ⊢
  clear HW h h2 hg he hr hno hl2 hp hn
  go_enter Try.func27, Try.ntmps27
  go_wp2_with fail
  go_step3
  go_wp2_with fail
  refine HW2.out.mono ?_
  rintro e w2 ⟨rfl, hk⟩
  have HK := hide hk
  have HC2 := hide (HC.out w2 hk)
  clear hk HC
  go_wp2_with fail
  refine HC2.out.mono ?_
  rintro e w3 ⟨_, rfl, a3, c3, rfl, hI, hk3⟩
  have HI := hide hI
  have HK3 := hide (HK.out.then hk3)
  rw [HN.out] at HI ⊢
  clear hI hk3 HC2
  go_wp2_with fail
  go_step3
  go_wp2_with fail
  go_loopw [8, 9] (fun v c wr => ∃ (now : List Int) (k : Nat) (a1 : Option Addr) (c1 : Nat), v = .slice a1 n c1 ∧ c = .int .i64 k ∧ Hid (Ints wr a1 n now) ∧ Hid (IsP now) ∧ k + cnt p ≤ cnt now ∧ cnt now ≤ n ∧ Hid (coarseL p next = coarseGo next (n + 1) now k) ∧ Hid (Keeps Non w wr)) (fun _ c _ => n - (intOf c).toNat)
  case atStart => exact ⟨p, 0, a3, c3, rfl, rfl, HI.out, HP.out, by omega, by have := cnt_le_length p; have := HN.out; omega, by show _ = _; rw [coarseL, HN.out], HK3.out⟩
  case round =>
    clear HI HK3
    obtain ⟨now, k, a1, c1, rfl, rfl, HI, HPn, hkc, hcn, HCo, HKr⟩ := hrel
    have hnl : now.length = n := HI.out.len
    have hnx : next.length = n := HNo.out.1
    have HR := hide (refine_l a1 b n c1 n cap2 now next wr HI.out (HY.out.non HKr.out) (isP_good HPn.out (by omega)) rfl hn2 HNo.out)
    have HCt1 : Hid (∀ w', Keeps Non wr w' → Calls Try.prog 55 #[.slice a1 n c1] w' fun e w2 => e = .returned (.int .i64 (cnt now)) ∧ Keeps Non w' w2) := fun w' hk => count_l a1 n c1 now w' (HI.out.non hk) HPn.out hn2
    have hrl : (refineL now next).length = n := by rw [refineL_length (by omega), hnl]
    have HRl := hide hrl
    have HCt2 : Hid (∀ g w', Blk w' g ((refineL now next).map (Value.int .i64)) 3 → Calls Try.prog 55 #[.slice (some ⟨g, 0, none⟩) n n] w' fun e w2 => e = .returned (.int .i64 (cnt (refineL now next))) ∧ Keeps Non w' w2) := fun g w' hB => by
      have hI := ints_of_blk hB (by omega)
      rw [hrl] at hI
      exact count_l _ n n _ w' hI (refineL_isP _ _) hn2
    have hstep := coarse_now (p := p) (next := next) (by have := HN.out; omega) now k (by have := HN.out; omega)
    have hmono := cnt_refine (p := now) (next := next) (by omega)
    have hle2 := cnt_le_length (refineL now next)
    have hend : cnt (refineL now next) = cnt now → coarseGo next (n + 1) now k = (now, k) := fun he => by
      unfold coarseGo
      rw [if_pos he]
    obtain ⟨q, hq⟩ : ∃ q, cnt (refineL now next) = q := ⟨_, rfl⟩
    obtain ⟨q0, hq0⟩ : ∃ q, cnt now = q := ⟨_, rfl⟩
    rw [hq] at HCt2 hstep hmono hle2 hend
    rw [hq0] at HCt1 hstep hmono hkc hcn hend
    rw [hrl] at hle2
    have hLast : Hid (cnt (refineL now next) = q ∧ cnt now = q0) := ⟨hq, hq0⟩
    have HLast := hide (And.intro hq hq0)
    by_cases heq : q = q0
    · have HE := hide (hend heq)
      clear hstep hend hmono hle2 hq hq0 hrl hnl hnx
      go_wp2_with fail
      refine HR.out.mono ?_
      rintro e w4 ⟨_, rfl, g, rfl, hg, hB, hk4⟩
      rw [HRl.out]
      have HB := hide hB
      have HK4 := hide hk4
      have HC3 := hide (HCt2.out g w4 hB)
      clear hB hg hk4 HCt2
      go_wp2_with fail
      refine HC3.out.mono ?_
      rintro e w5 ⟨rfl, hk5⟩
      have HK5 := hide (HK4.out.then hk5)
      have HC4 := hide (HCt1.out w5 HK5.out)
      clear hk5 HC3
      go_wp2_with fail
      refine HC4.out.mono ?_
      rintro e w6 ⟨rfl, hk6⟩
      have HK6 := hide (HK5.out.then hk6)
      clear hk6 HC4
      have heq2 : (q : Int) = (q0 : Int) := by omega
      clear heq
      go_wp2_with fail
      try rw [Exit.noGoto_ret]
      refine bodyPost_ret (v := .tuple #[.slice a1 n c1, .int .i64 k, .int .i64 0]) (by simp [results, Try.results27, go_sem]) rfl ?_
      refine ⟨.slice a1 n c1, ?_, a1, c1, ?_, ?_, HKr.out.then HK6.out⟩
      · rw [HCo.out, HE.out]
      · rw [HCo.out, HE.out, HI.out.len]
      · rw [HCo.out, HE.out, HI.out.len]
        exact (HI.out.non HK6.out)
    · have HE := hide (hstep heq)
      have hlt : q0 < q := by omega
      clear hstep hend hmono hq hq0 hrl hnl hnx
      go_wp2_with fail
      refine HR.out.mono ?_
      rintro e w4 ⟨_, rfl, g, rfl, hg, hB, hk4⟩
      rw [HRl.out]
      have HB := hide hB
      have HK4 := hide hk4
      have HC3 := hide (HCt2.out g w4 hB)
      clear hB hg hk4 HCt2
      go_wp2_with fail
      refine HC3.out.mono ?_
      rintro e w5 ⟨rfl, hk5⟩
      have HK5 := hide (HK4.out.then hk5)
      have HC4 := hide (HCt1.out w5 HK5.out)
      clear HC3
      have HB5 := hide (HB.out.keeps hk5 (fun x => x))
      clear hk5
      go_wp2_with fail
      refine HC4.out.mono ?_
      rintro e w6 ⟨rfl, hk6⟩
      have HK6 := hide (HK5.out.then hk6)
      have HB6 := hide (HB5.out.keeps hk6 (fun x => x))
      clear hk6 HC4
      have hne : ((q : Int) == (q0 : Int)) = false := by simp; omega
      have k0 : (0 : Int) ≤ (k : Int) := by omega
      have k1 : (k : Int) ≤ 1024 := by omega
      clear heq
      go_wp2_with fail
      go_roundw
      case rel =>
        have hI := ints_of_blk HB6.out (by rw [HRl.out]; omega)
        rw [HRl.out] at hI
        exact ⟨refineL now next, k + 1, _, n, rfl, by go_num, hI, refineL_isP _ _, by rw [HLast.out.1]; omega, by rw [HLast.out.1]; exact hle2, by show _ = _; rw [HCo.out, ← HN.out, HE.out], HKr.out.then HK6.out⟩
      case measure =>
        have := HLast.out.2
        simp [intOf]
        omega
end Go.Proofs.Ytkcbahfmdokalaa
