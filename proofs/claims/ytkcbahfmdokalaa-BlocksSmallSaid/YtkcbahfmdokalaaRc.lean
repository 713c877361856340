/-
  Walks over layer 6's reference: Finer, Meet. No condition.
-/
import Derived.Test.YtkcbahfmdokalaaRb
namespace Go.Proofs.Ytkcbahfmdokalaa
open Go.RowKit
attribute [local go_sem] onto_cell onto_frozen
set_option linter.unusedVariables false
set_option maxRecDepth 100000 in
set_option maxHeartbeats 4000000 in
open Classical in
theorem finerR_l (a b : Option Addr) (n cap cap2 : Nat) (p q : List Int) (v : Bool) (w : World) (h : Ints w a n p) (h2 : Ints w b n q) (hv : decide (Fin n p q) = v) :
    Calls Try.prog 61 #[.slice a n cap, .slice b n cap2] w fun e w' => e = .returned (.bool v) ∧ Keeps Non w w' := by
  have hn := h.big
  have HX := hide h
  have HY := hide h2
  have HV := hide hv
  clear h h2 hv
  go_enter Try.func61, Try.ntmps61
  go_wp2_with fail
  go_loopw [5] (fun t wr => ∃ (i : Nat), i ≤ n ∧ t = .int .i64 i ∧ Hid (∀ x y, y < x → x < i → p.getD x 0 = p.getD y 0 → q.getD x 0 = q.getD y 0) ∧ Hid (Keeps Non w wr)) (fun t _ => n - (intOf t).toNat)
  case atStart => exact ⟨0, by omega, rfl, (fun x y _ h => by omega), Keeps.refl _ _⟩
  case round =>
    obtain ⟨i, hi, rfl, HA, HK⟩ := hrel
    by_cases hlt : i < n
    · have i0 : (0 : Int) ≤ (i : Int) := by omega
      have i1 : (i : Int) < (n : Int) := by omega
      go_wp2_with fail
      go_loopw [6] (fun t wr => ∃ (k : Nat), k ≤ i ∧ t = .int .i64 k ∧ Hid (∀ y, y < k → p.getD i 0 = p.getD y 0 → q.getD i 0 = q.getD y 0) ∧ Hid (Keeps Non w wr)) (fun t _ => i - (intOf t).toNat)
      case atStart => exact ⟨0, by omega, rfl, (fun y h => by omega), HK.out⟩
      case round =>
        clear HK
        obtain ⟨k, hk, rfl, HB, HK⟩ := hrel
        by_cases hki : k < i
        · obtain ⟨b5, o5, rfl, hb5, hc5⟩ := (HX.out.non HK.out).at (by omega)
          obtain ⟨b6, o6, rfl, hb6, hc6⟩ := (HY.out.non HK.out).at (by omega)
          have l1 := hc5 i hlt
          have l2 := hc5 k (by omega)
          have l3 := hc6 i hlt
          have l4 := hc6 k (by omega)
          obtain ⟨x, hx⟩ : ∃ x, p.getD i 0 = x := ⟨_, rfl⟩
          obtain ⟨y, hy⟩ : ∃ x, p.getD k 0 = x := ⟨_, rfl⟩
          obtain ⟨u, hu⟩ : ∃ x, q.getD i 0 = x := ⟨_, rfl⟩
          obtain ⟨z, hz⟩ : ∃ x, q.getD k 0 = x := ⟨_, rfl⟩
          have HE := hide (And.intro hx (And.intro hy (And.intro hu hz)))
          rw [hx] at l1
          rw [hy] at l2
          rw [hu] at l3
          rw [hz] at l4
          have k0 : (0 : Int) ≤ (k : Int) := by omega
          have k1 : (k : Int) < (i : Int) := by omega
          have k2 : (k : Int) < (n : Int) := by omega
          clear hc5 hc6 hx hy hu hz
          by_cases hxy : x = y
          · by_cases huz : u = z
            · have HB2 : Hid (∀ y, y < k + 1 → p.getD i 0 = p.getD y 0 → q.getD i 0 = q.getD y 0) := fun y' hy' h => by
                rcases Nat.lt_succ_iff_lt_or_eq.1 hy' with h1 | rfl
                · exact HB.out y' h1 h
                · rw [HE.out.2.2.1, HE.out.2.2.2, huz]
              subst hxy
              subst huz
              go_wp2_with fail
              refine wp_region_onto (by kernel_rfl) (by kernel_rfl) ?_
              repeat (go_big_quiet_step (fail))
              refine wpQuiet_nil ?_
              rintro _ ⟨u0, rfl⟩
              have KO := hide (HK.out.then (onto_keeps wr u0))
              go_wp2_with fail
              go_roundw
              case rel => exact ⟨k + 1, by omega, by go_num, HB2.out, KO.out⟩
              case measure => simp [intOf]; omega
            · have HF : Hid (v = false) := by
                show _ = _
                rw [← HV.out, decide_eq_false_iff_not]
                intro h
                have := h i k hlt (by omega) (by rw [HE.out.1, HE.out.2.1, hxy])
                rw [HE.out.2.2.1, HE.out.2.2.2] at this
                exact huz this
              have huz2 : (u != z) = true := by simpa using huz
              have huz3 : (u == z) = false := by simpa using huz
              subst hxy
              go_wp2_with fail
              refine wp_region_onto (by kernel_rfl) (by kernel_rfl) ?_
              repeat (go_big_quiet_step (fail))
              refine wpQuiet_nil ?_
              rintro _ ⟨u0, rfl⟩
              have KO := hide (HK.out.then (onto_keeps wr u0))
              go_wp2_with fail
              try rw [Exit.noGoto_ret]
              go_ret
              exact ⟨ret_bool HF.out.symm, KO.out⟩
          · have HB2 : Hid (∀ y, y < k + 1 → p.getD i 0 = p.getD y 0 → q.getD i 0 = q.getD y 0) := fun y' hy' h => by
              rcases Nat.lt_succ_iff_lt_or_eq.1 hy' with h1 | rfl
              · exact HB.out y' h1 h
              · rw [HE.out.1, HE.out.2.1] at h
                exact absurd h hxy
            have hxy2 : (x == y) = false := by simpa using hxy
            go_wp2_with fail
            refine wp_region_onto (by kernel_rfl) (by kernel_rfl) ?_
            repeat (go_big_quiet_step (fail))
            refine wpQuiet_nil ?_
            rintro _ ⟨u0, rfl⟩
            have KO := hide (HK.out.then (onto_keeps wr u0))
            go_wp2_with fail
            go_roundw
            case rel => exact ⟨k + 1, by omega, by go_num, HB2.out, KO.out⟩
            case measure => simp [intOf]; omega
        · obtain rfl : i = k := by omega
          have y8 : ¬ (i : Int) < (i : Int) := by omega
          go_wp2_with fail
          go_roundw
          case rel => exact ⟨i + 1, by omega, by go_num, (fun x y hyx hxi h => by
            rcases Nat.lt_succ_iff_lt_or_eq.1 hxi with h1 | rfl
            · exact HA.out x y hyx h1 h
            · exact HB.out y hyx h), HK.out⟩
          case measure => simp [intOf]; omega
    · obtain rfl : n = i := by omega
      have y9 : ¬ (n : Int) < (n : Int) := by omega
      have HF : Hid (v = true) := by
        show _ = _
        rw [← HV.out, decide_eq_true_eq]
        intro x y hx hy h
        rcases Nat.lt_trichotomy x y with h1 | h1 | h1
        · exact (HA.out y x h1 hy h.symm).symm
        · rw [h1]
        · exact HA.out x y h1 hx h
      go_wp2_with fail
      try rw [Exit.noGoto_ret]
      go_ret
      exact ⟨ret_bool HF.out.symm, HK.out⟩
end Go.Proofs.Ytkcbahfmdokalaa
