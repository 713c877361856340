/-
  Walks over layer 6's reference: Right, Count. No condition.
-/
import Derived.Test.YtkcbahfmdokalaaPm
import Derived.Test.YtkcbahfmdokalaaU
namespace Go.Proofs.Ytkcbahfmdokalaa
open Go.RowKit
attribute [local go_sem] onto_cell onto_frozen
set_option linter.unusedVariables false
/-- Right, number by number. -/
def rGo : List Int → Nat → Bool
  | [], _ => true
  | x :: r, c => if x < 0 ∨ (c : Int) < x then false else if x = c then rGo r (c + 1) else rGo r c
theorem rGo_eq : ∀ (L : List Int) (c : Nat), rGo L c = decide (numb (upTo c) L = L)
  | [], c => by simp [rGo, numb]
  | x :: r, c => by
    unfold rGo
    by_cases h1 : x < 0 ∨ (c : Int) < x
    · rw [if_pos h1]
      have hn : x ∉ upTo c := fun h => by have := upTo_mem.1 h; omega
      symm
      rw [decide_eq_false_iff_not]
      intro h
      simp only [numb, if_neg hn, List.cons.injEq, upTo_length] at h
      omega
    · rw [if_neg h1]
      by_cases h2 : x = c
      · have hn : x ∉ upTo c := fun h => by have := upTo_mem.1 h; omega
        rw [if_pos h2, rGo_eq r (c + 1)]
        subst h2
        simp only [numb, if_neg hn, upTo_length, ← upTo_snoc, List.cons.injEq, true_and]
      · have hm : x ∈ upTo c := upTo_mem.2 (by omega)
        rw [if_neg h2, rGo_eq r c]
        simp only [numb, if_pos hm, upTo_idx hm, List.cons.injEq, true_and]
theorem rGo_right (xs : List Int) (h : xs.length ≤ 1024) : rGo xs 0 = rightB xs := by
  rw [rGo_eq]
  unfold rightB
  rw [decide_eq_true h]
  simp [upTo]
set_option maxHeartbeats 2000000 in
theorem rightR_l (a : Option Addr) (n cap : Nat) (xs : List Int) (v : Bool) (w : World) (h : Ints w a n xs) (hv : rightB xs = v) :
    Calls Try.prog 47 #[.slice a n cap] w fun e w' => e = .returned (.bool v) ∧ Keeps Non w w' := by
  have hl := h.len
  by_cases hn : n ≤ 1024
  · have hr := rGo_right xs (by omega)
    rw [hv] at hr
    have HV := hide hr
    have HX := hide h
    have n1 : ¬ (1024 : Int) < (n : Int) := by omega
    clear h hv hl hr
    go_enter Try.func47, Try.ntmps47
    go_wp2_with fail
    go_loop [4, 3] (fun t s => ∃ (k c : Nat), k ≤ n ∧ t = .int .i64 k ∧ s = .int .i64 c ∧ c ≤ k ∧ Hid (rGo xs 0 = rGo (xs.drop k) c)) (fun t _ => n - (intOf t).toNat)
    case atStart => exact ⟨0, 0, by omega, rfl, rfl, by omega, rfl⟩
    case round =>
      obtain ⟨k, c, hk, rfl, rfl, hck, HG⟩ := hrel
      by_cases hlt : k < n
      · obtain ⟨b, off, rfl, hb, hc⟩ := HX.out.at (by omega)
        have ck := hc k hlt
        have hdr : xs.drop k = xs.getD k 0 :: xs.drop (k + 1) := by
          rw [List.drop_eq_getElem_cons (by rw [HX.out.len]; exact hlt), getD_num (by rw [HX.out.len]; exact hlt)]
        obtain ⟨x, hx⟩ : ∃ x, xs.getD k 0 = x := ⟨_, rfl⟩
        rw [hx] at ck hdr
        have hg := HG.out
        rw [hdr] at hg
        have k0 : (0 : Int) ≤ (k : Int) := by omega
        have k1 : (k : Int) < (n : Int) := by omega
        clear hc hx hdr
        by_cases h0 : x < 0
        · have HF : Hid (v = false) := by
            show _ = _
            rw [← HV.out, hg]
            simp only [rGo]
            rw [if_pos (.inl h0)]
          clear hg
          go_wp2_with fail
          try rw [Exit.noGoto_ret]
          go_ret
          exact ⟨ret_bool HF.out.symm, Keeps.refl _ _⟩
        · have h0d : decide (x < 0) = false := by simpa using h0
          by_cases h1 : (c : Int) < x
          · have HF : Hid (v = false) := by
              show _ = _
              rw [← HV.out, hg]
              simp only [rGo]
              rw [if_pos (.inr h1)]
            clear hg
            go_wp2_with fail
            try rw [Exit.noGoto_ret]
            go_ret
            exact ⟨ret_bool HF.out.symm, Keeps.refl _ _⟩
          · simp only [rGo] at hg
            rw [if_neg (by omega)] at hg
            by_cases h2 : x = c
            · rw [if_pos h2] at hg
              have HG2 := hide hg
              subst h2
              clear hg
              go_wp2_with fail
              go_round
              case rel => exact ⟨k + 1, c + 1, by omega, by go_num, by go_num, by omega, HG2.out⟩
              case measure => simp [intOf]; omega
            · rw [if_neg h2] at hg
              have HG2 := hide hg
              have h3 : (x == (c : Int)) = false := by simpa using h2
              clear hg
              go_wp2_with fail
              go_round
              case rel => exact ⟨k + 1, c, by omega, by go_num, rfl, by omega, HG2.out⟩
              case measure => simp [intOf]; omega
      · obtain rfl : n = k := by omega
        have y9 : ¬ (n : Int) < (n : Int) := by omega
        have HF : Hid (v = true) := by
          show _ = _
          rw [← HV.out, HG.out, List.drop_of_length_le (by rw [HX.out.len]; exact Nat.le_refl _)]
          rfl
        go_wp2_with fail
        try rw [Exit.noGoto_ret]
        go_ret
        exact ⟨ret_bool HF.out.symm, Keeps.refl _ _⟩
  · have n1 : (1024 : Int) < (n : Int) := by omega
    have HF : Hid (v = false) := by
      show _ = _
      rw [← hv]
      unfold rightB
      rw [decide_eq_false (by omega)]
      rfl
    have hbg := h.big
    clear h hv hl
    go_enter Try.func47, Try.ntmps47
    go_wp2_with fail
    go_ret
    exact ⟨ret_bool HF.out.symm, Keeps.refl _ _⟩
/-- How many blocks the first k elements have. -/
theorem cnt_step {n : Nat} {p : List Int} (hp : Pt n p) {i : Nat} (hi : i < n) : (cnt (p.take i) : Int) ≤ p.getD i 0 ∧ (cnt (p.take (i + 1)) : Int) = p.getD i 0 + 1 ∨ p.getD i 0 < cnt (p.take i) ∧ cnt (p.take (i + 1)) = cnt (p.take i) := by
  have hs := numStep_of p (fun i k => p.getD i 0 = p.getD k 0) (fun i k hi hk => by rw [getD_num hi, getD_num (by omega)])
  rw [show numb [] p = p from hp.isP, hp.len] at hs
  by_cases h : ∃ k, k < i ∧ p.getD i 0 = p.getD k 0
  · obtain ⟨k, hk, he⟩ := h
    right
    have hm : p.getD k 0 ∈ numb [] (p.take i) := by
      rw [numb_take, show numb [] p = p from hp.isP, getD_num (by rw [hp.len]; omega)]
      exact List.mem_iff_getElem.2 ⟨k, by rw [List.length_take, hp.len]; omega, by rw [List.getElem_take]⟩
    have hb := numb_bound (p.take i) _ hm
    exact ⟨by rw [he]; exact hb.2, (hs.old i k hk hi he).2⟩
  · left
    have := hs.new i hi (fun k hk he => h ⟨k, hk, he⟩)
    have h1 : p.getD i 0 = (cnt (p.take i) : Int) := this.1
    have h2 : cnt (p.take (i + 1)) = cnt (p.take i) + 1 := this.2
    omega
set_option maxHeartbeats 2000000 in
theorem countR_l (a : Option Addr) (n cap : Nat) (p : List Int) (w : World) (h : Ints w a n p) (hp : Pt n p) (hn : n ≤ 1024) :
    Calls Try.prog 59 #[.slice a n cap] w fun e w' => e = .returned (.int .i64 (cnt p)) ∧ w = w' := by
  have HX := hide h
  have HP := hide hp
  clear h hp
  go_enter Try.func59, Try.ntmps59
  go_wp2_with fail
  go_loop [4, 3] (fun t s => ∃ (k : Nat), k ≤ n ∧ t = .int .i64 k ∧ s = .int .i64 (cnt (p.take k))) (fun t _ => n - (intOf t).toNat)
  case atStart => exact ⟨0, by omega, rfl, rfl⟩
  case round =>
    obtain ⟨k, hk, rfl, rfl⟩ := hrel
    by_cases hlt : k < n
    · obtain ⟨b, off, rfl, hb, hc⟩ := HX.out.at (by omega)
      have ck := hc k hlt
      have hst := cnt_step HP.out hlt
      have hle : cnt (p.take k) ≤ k := by
        have := cnt_le_length (p.take k)
        rw [List.length_take] at this
        omega
      have hbd := pt_bound HP.out hlt
      have hcl := cnt_le_length p
      rw [HP.out.len] at hcl
      obtain ⟨x, hx⟩ : ∃ x, p.getD k 0 = x := ⟨_, rfl⟩
      obtain ⟨c, hcc⟩ : ∃ c, cnt (p.take k) = c := ⟨_, rfl⟩
      obtain ⟨d, hd⟩ : ∃ c, cnt (p.take (k + 1)) = c := ⟨_, rfl⟩
      rw [hx] at ck hst hbd
      rw [hcc] at hst hle ⊢
      rw [hd] at hst
      have HD := hide hd
      have k0 : (0 : Int) ≤ (k : Int) := by omega
      have k1 : (k : Int) < (n : Int) := by omega
      have x0 : 0 ≤ x := hbd.1
      have x1 : x ≤ 1024 := by omega
      clear hc hx hcc hd hbd hcl
      by_cases h1 : (c : Int) ≤ x
      · have HE : Hid ((d : Int) = x + 1) := by show _ = _; omega
        clear hst
        go_wp2_with fail
        go_round
        case rel => exact ⟨k + 1, by omega, by go_num, by rw [HD.out, HE.out]⟩
        case measure => simp [intOf]; omega
      · have HE : Hid (d = c) := by show _ = _; omega
        clear hst
        go_wp2_with fail
        go_round
        case rel => exact ⟨k + 1, by omega, by go_num, by rw [HD.out, HE.out]⟩
        case measure => simp [intOf]; omega
    · obtain rfl : n = k := by omega
      have y9 : ¬ (n : Int) < (n : Int) := by omega
      have HE : Hid (cnt (p.take n) = cnt p) := by
        show _ = _
        rw [List.take_of_length_le (by rw [HP.out.len]; exact Nat.le_refl _)]
      go_wp2_with fail
      go_ret
      exact ⟨by rw [← HE.out]; rfl, rfl⟩
end Go.Proofs.Ytkcbahfmdokalaa
