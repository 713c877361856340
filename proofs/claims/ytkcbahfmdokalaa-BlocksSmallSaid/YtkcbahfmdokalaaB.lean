/-
  Walks over layer 6: Equal, Right, count. No condition.
-/
import Derived.Test.YtkcbahfmdokalaaA
import Derived.Test.YtkcbahfmdokalaaShelf
namespace Go.Proofs.Ytkcbahfmdokalaa
open Go.RowKit
attribute [local go_sem] onto_cell onto_frozen
set_option linter.unusedVariables false
theorem getD_at {xs : List Int} {i : Nat} (h : i < xs.length) : xs.getD i 0 = xs[i] := by
  rw [List.getD_eq_getElem?_getD, List.getElem?_eq_getElem h]
  rfl
theorem eq_of_getD {xs ys : List Int} (hl : xs.length = ys.length) (h : ∀ j, j < xs.length → xs.getD j 0 = ys.getD j 0) : xs = ys := by
  apply List.ext_getElem hl
  intro i h1 h2
  have := h i h1
  rwa [getD_at h1, getD_at h2] at this
set_option maxHeartbeats 2000000 in
theorem equal_any (a : Option Addr) (n cap : Nat) (xs : List Int) (b : Option Addr) (m cap2 : Nat) (ys : List Int) (w : World) (h : Ints w a n xs) (h2 : Ints w b m ys) :
    Calls Try.prog 19 #[.slice a n cap, .slice b m cap2] w fun e w' => e = .returned (.bool (decide (xs = ys))) ∧ Keeps Non w w' := by
  have hn := h.big
  have hm := h2.big
  have hlx := hide h.len
  have hly := hide h2.len
  by_cases hnm : n = m
  · subst hnm
    have HX := hide h
    have HY := hide h2
    clear h h2
    go_enter Try.func19, Try.ntmps19
    go_wp2
    obtain ⟨W, hW, hWk⟩ : ∃ W, w = W ∧ Keeps Non w W := ⟨w, rfl, Keeps.refl _ _⟩
    go_loopw [13] (fun i wr => ∃ k : Nat, k ≤ n ∧ i = .int .i64 k ∧ Keeps Non w wr ∧ Hid (∀ j, j < k → xs.getD j 0 = ys.getD j 0)) (fun i _ => n - (intOf i).toNat)
    case atStart => exact ⟨0, Nat.zero_le _, rfl, Keeps.refl _ _, fun j hj => by omega⟩
    case round =>
      obtain ⟨k, hk, rfl, hkw, hall⟩ := hrel
      by_cases hlt : k < n
      · obtain ⟨b1, o1, rfl, hb1, hc1⟩ := (HX.out.non hkw).at (by omega)
        obtain ⟨b2, o2, rfl, hb2, hc2⟩ := (HY.out.non hkw).at (by omega)
        have ck := hc1 k hlt
        have dk := hc2 k hlt
        obtain ⟨x, hx⟩ : ∃ x, xs.getD k 0 = x := ⟨_, rfl⟩
        obtain ⟨y, hy⟩ : ∃ x, ys.getD k 0 = x := ⟨_, rfl⟩
        rw [hx] at ck
        rw [hy] at dk
        have z0 : (0 : Int) ≤ (k : Int) := by omega
        have z1 : (k : Int) < (n : Int) := by omega
        have HH := hide (And.intro hx hy)
        have HKW := hide hkw
        clear hc1 hc2 hx hy hW hWk hkw
        by_cases hxy : x = y
        · subst hxy
          go_wp2
          refine wp_region_onto (by kernel_rfl) (by kernel_rfl) ?_
          repeat (go_big_quiet_step (fail))
          refine wpQuiet_nil ?_
          rintro _ ⟨u, rfl⟩
          go_wp2
          go_roundw
          case rel => exact ⟨k + 1, by omega, by go_num, HKW.out.then (onto_keeps _ _), fun j hj => by
            rcases Nat.lt_succ_iff_lt_or_eq.1 hj with h | rfl
            · exact hall j h
            · rw [HH.out.1, HH.out.2]⟩
          case measure => simp [intOf]; omega
        · have hne : Hid (decide (xs = ys) = false) := by
            unfold Hid
            simp only [decide_eq_false_iff_not]
            intro he
            exact hxy (by rw [← HH.out.1, ← HH.out.2, he])
          go_wp2
          refine wp_region_onto (by kernel_rfl) (by kernel_rfl) ?_
          repeat (go_big_quiet_step (fail))
          refine wpQuiet_nil ?_
          rintro _ ⟨u, rfl⟩
          go_wp2
          try rw [Exit.noGoto_ret]
          go_ret
          exact ⟨ret_bool hne.out.symm, HKW.out.then (onto_keeps _ _)⟩
      · have heq : Hid (decide (xs = ys) = true) := by
          unfold Hid
          simp only [decide_eq_true_eq]
          exact eq_of_getD (by rw [hlx.out, hly.out]) (fun j hj => hall j (by rw [hlx.out] at hj; omega))
        have HKW := hide hkw
        clear hkw hW hWk
        go_wp2
        try rw [Exit.noGoto_ret]
        go_ret
        exact ⟨ret_bool heq.out.symm, HKW.out⟩
  · have hnm' : ¬ (n : Int) = (m : Int) := by omega
    have hne : Hid (decide (xs = ys) = false) := by
      unfold Hid
      simp only [decide_eq_false_iff_not]
      intro he
      exact hnm (by rw [← hlx.out, ← hly.out, he])
    clear h h2 hnm
    go_enter Try.func19, Try.ntmps19
    go_wp2
    go_ret
    exact ⟨ret_bool hne.out.symm, Keeps.refl _ _⟩

theorem ints_of_blk {w : World} {b : Nat} {t : TypeId} {xs : List Int} (h : Blk w b (xs.map (Value.int .i64)) t) (hb : xs.length ≤ 17592186044416) : Ints w (some ⟨b, 0, none⟩) xs.length xs :=
  ⟨rfl, hb, .inr ⟨b, 0, rfl, h.lt, fun i hi => by
    rw [h.cell]
    simp [List.getD_eq_getElem?_getD, hi]⟩⟩
/-- Numbers that are a partition. -/
def rightB (xs : List Int) : Bool := decide (xs.length ≤ 1024) && decide (numb [] xs = xs)
theorem right_l (a : Option Addr) (n cap : Nat) (xs : List Int) (w : World) (h : Ints w a n xs) (hwf : ∀ x ∈ xs, (Lit.int .i64 x).wf = true) :
    Calls Try.prog 37 #[.slice a n cap] w fun e w' => e = .returned (.bool (rightB xs)) ∧ Keeps Non w w' := by
  have hl := h.len
  by_cases hn : n ≤ 1024
  · have h1 : (n : Int) ≤ 1024 := by omega
    obtain ⟨v, hv⟩ : ∃ v, decide (numb [] xs = xs) = v := ⟨_, rfl⟩
    have HR : Hid (rightB xs = v) := by
      show _ = _
      unfold rightB
      rw [hv, decide_eq_true (by omega)]
      rfl
    have hnl : (numb [] xs).length = n := by rw [numb_length, hl]
    have HC := hide (numbered_int a n cap xs w h (by omega) hwf)
    have HE : Hid (∀ b w', Blk w' b ((numb [] xs).map (Value.int .i64)) 3 → Keeps Non w w' → Calls Try.prog 19 #[.slice (some ⟨b, 0, none⟩) n n, .slice a n cap] w' fun e w2 => e = .returned (.bool v) ∧ Keeps Non w' w2) := by
      intro b w' hb hk
      have h2 := ints_of_blk hb (by omega)
      rw [hnl] at h2
      have := equal_any _ n n (numb [] xs) a n cap xs w' h2 (h.non hk)
      rw [hv] at this
      exact this
    clear h hwf hl hv hnl
    go_enter Try.func37, Try.ntmps37
    go_wp2_with fail
    refine HC.out.mono ?_
    rintro e w2 ⟨b, rfl, hb, hB, hk⟩
    have HE2 := hide (HE.out b w2 hB hk)
    have HK := hide hk
    clear hb hB hk HE
    go_wp2_with fail
    refine HE2.out.mono ?_
    rintro e w3 ⟨rfl, hk3⟩
    go_wp2_with fail
    go_ret
    refine ⟨ret_bool ?_, HK.out.then hk3⟩
    rw [HR.out]
  · have h1 : ¬ (n : Int) ≤ 1024 := by omega
    have h2 : decide ((n : Int) ≤ 1024) = false := by simpa using h1
    have HR : Hid (rightB xs = false) := by
      show _ = _
      unfold rightB
      rw [decide_eq_false (by omega)]
      rfl
    clear h hwf hl
    go_enter Try.func37, Try.ntmps37
    go_wp2_with fail
    go_ret
    exact ⟨ret_bool HR.out.symm, Keeps.refl _ _⟩
end Go.Proofs.Ytkcbahfmdokalaa
