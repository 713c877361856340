/-
  The walk over TimerMore. No condition.
-/
import Derived.Test.YtbgcglgbaekfeaaV
namespace Go.Proofs.Ytbgcglgbaekfeaa
open Go.RowKit
attribute [local go_sem] onto_cell onto_frozen dnn
theorem bnd_mod {p : Int} {N : Nat} (_hp : 0 ≤ p) (_hN : 0 ≤ N) : 0 ≤ p % ((N : Int) + 1) ∧ p % ((N : Int) + 1) ≤ (N : Int) :=
  ⟨Int.emod_nonneg _ (by omega), by have := Int.emod_lt_of_pos p (show (0 : Int) < (N : Int) + 1 by omega); omega⟩
set_option maxHeartbeats 8000000 in
set_option maxRecDepth 100000 in
theorem more_walk (a : Option Addr) (n cap : Nat) (zs : List Int) (p q : Int) (w : World) (h : Byts w a n zs) (hr : n ≤ cap ∧ cap ≤ 9223372036854775807) (h0 : a = none → cap = 0) (hp0 : 0 ≤ p) (hp1 : p ≤ 255) (hq0 : 0 ≤ q) (hq1 : q ≤ 255) :
    Calls Try.prog 8 #[.slice a n cap, .int .u8 p, .int .u8 q] w fun e w' => e = .returned (.bool true) ∧ Keeps Non w w' := by
  obtain ⟨i0, hi, hz0, hz1, hz2⟩ := info_parts Tm.info3
  have HM := hide (fun w' (k : Keeps Non w w') => made_any a n cap zs w' (h.non k) hr h0)
  clear h hr h0
  go_enter Try.func8, Try.ntmps8
  go_wp2_with fail
  have HKa := hide ((Keeps.refl Non w).alloc (.cells #[.int .i64 20] 3))
  have HBa := hide (Blk.new w [.int .i64 20] 3)
  refine (HM.out _ HKa.out).mono ?_
  rintro e w1 ⟨a', n', c', rfl, hI, hk⟩
  have hO : w1.ownsRow w.heap.size 3 1 (.slice (some ⟨w.heap.size, 0, none⟩) 1 1) 1 [.int .i64 20] := by
    refine ⟨rfl, .inr ⟨w.heap.size, 1, #[.int .i64 20], rfl, Nat.le_refl _, HBa.out.keeps hk id, Nat.le_refl _, by decide, rfl, rfl⟩⟩
  have hlen := hide hI.len
  have hn12 : n' ≤ 12 := by have := made_len zs; have := hI.len; omega
  have HK := hide (HKa.out.then hk)
  have HKx := hide hk
  have hsz1 := HK.out.size
  have HI := hide hI
  clear hk hI
  cases a' with
  | none =>
    obtain rfl : n' = 0 := by
      rcases HI.out.cell with h | ⟨_, _, h, _⟩
      · exact h
      · cases h
    have HI2 := hide (ints_of_blk (xs := [20]) (HBa.out.keeps HKx.out id) (by simp))
    have hm0 : made zs = [] := List.eq_nil_of_length_eq_zero hlen.out
    have HI := hide (show Ints w1 (some ⟨w.heap.size, 0, none⟩) 1 (moreL zs) by rw [moreL, hm0]; exact HI2.out)
    go_wp2_with fail
    generalize hM : min (1 : Int) 11 = M at *
    obtain ⟨N, rfl, hN⟩ : ∃ N : Nat, M = (N : Int) ∧ N = 1 := ⟨1, by omega, rfl⟩
    rw [Int.toNat_natCast]
    rw [← hN] at HI
    have hlN : (moreL zs).length = N := HI.out.len
    clear hM hN
    have hlenY := moreL_len zs
    have HC := hide (moreL_chk zs)
    have HBD := hide (moreL_bd zs)
    generalize moreL zs = ys at *
    have hx0 : ys ≠ [] := by intro h; rw [h] at hlenY; simp at hlenY
    have HX := hide hx0
    have hr := ofI_lt hx0
    have HII := hide (fun k x (h : k ≤ ys.length) => ins_ofI (ys := ys) (k := k) (x := x) h hx0)
    have HTI : Hid (ys.getD (ofI ys) 0 = ofT ys) := rfl
    have HF := hide (fun a n cap w h => first_at a n cap ys (ofI ys) w h HC.out hx0 rfl)
    clear hx0
    generalize ofT ys = t at *
    generalize ofI ys = r at *
    have z0 : (0 : Int) ≤ (r : Int) := by omega
    have z1 : (r : Int) < (N : Int) := by omega
    have z7 : ¬ (r : Int) < 0 := by omega
    have z8 : ¬ (N : Int) ≤ (r : Int) := by omega
    refine (HF.out _ N _ _ HI.out).mono ?_
    rintro e w3 ⟨rfl, hk⟩
    have HI := hide (HI.out.non hk)
    have HK := hide (HK.out.then hk)
    clear hk
    go_wp2_with fail
    refine (clone_own _ N _ ys _ HI.out (by omega)).mono ?_
    rintro e w4 ⟨g2, c3, rfl, hg2, hO2, hk⟩
    have HG2 := hide hg2
    have HO2 := hide hO2
    have HI0 := HI
    have HI := hide (HI.out.non hk)
    have HK3 := HK
    have HK := hide (HK.out.then hk)
    clear hk hg2 hO2
    go_wp2_with fail
    have HK0 := bnd_mod hp0 (show 0 ≤ N by omega)
    obtain ⟨k0, k1⟩ := HK0
    have hx1 : 1 ≤ 1 + q % 60 ∧ 1 + q % 60 ≤ 60 := by omega
    obtain ⟨x1, x2⟩ := hx1
    generalize p % ((N : Int) + 1) = K at *
    generalize 1 + q % 60 = x at *
    obtain ⟨k, hKk⟩ : ∃ k : Nat, K = (k : Int) := ⟨K.toNat, by omega⟩
    have HKk := hide hKk
    have hkN : k ≤ N := by omega
    have HCI := hide (ins_chk (x := x) (by omega) HBD.out (show k ≤ ys.length by omega) ⟨x1, x2⟩)
    have HOF := hide (HII.out k x (by omega))
    have hg2lt := HO2.out.lt
    have HKb := hide ((Keeps.refl Non w4).alloc (.cells #[.int .i64 x] 3))
    have HBb := hide (Blk.new w4 [.int .i64 x] 3)
    clear hKk
    refine (insert_at g2 _ N k c3 K ys x _ hlN (by omega) (by omega) hkN HKk.out (HO2.out.alloc _) HBb.out (by omega)).mono ?_
    rintro e w5 ⟨a6, c6, rfl, hI6, hk⟩
    have HI6 := hide hI6
    have HI := hide (Ints.past HI0.out HG2.out (HI.out.non HKb.out) hk)
    have HK := hide ((HK.out.then HKb.out).trans hk (by intro i hi e; have := HK3.out.size; have := HG2.out; omega))
    clear hk hI6 HKb HBb
    obtain ⟨ab, ao, hae, hab, hcl⟩ := HI.out.at (by omega)
    cases hae
    have cr := hcl r (by omega)
    rw [HTI.out, Nat.zero_add] at cr
    clear hcl
    have hne : insL ys k x ≠ [] := by simp [insL]
    have HNE := hide hne
    clear hne
    by_cases hlt : x < t
    · have y9 : ¬ t ≤ x := by omega
      go_wp2_with fail
      refine (first_at a6 (N + 1) c6 _ (K) _ HI6.out HCI.out HNE.out (by rw [HOF.out, if_pos (.inl hlt)]; exact HKk.out.symm)).mono ?_
      rintro e w6 ⟨rfl, hk⟩
      have hab := Nat.lt_of_lt_of_le hab hk.size
      have cr := (hk.cell (p := ⟨_, _, none⟩) (by assumption) id).trans cr
      have HK := hide (HK.out.then hk)
      clear hk
      go_wp2_with (first | (go_at_call 10; refine (awake_any _).mono ?_; rintro e w' ⟨rfl, hk⟩))
      go_ret
      exact ⟨rfl, HK.out.then (by assumption)⟩
    · by_cases hkr : K ≤ (r : Int)
      · by_cases he : x = t
        · subst he
          go_wp2_with fail
          refine (first_at a6 (N + 1) c6 _ (K) _ HI6.out HCI.out HNE.out (by rw [HOF.out, if_pos (.inr ⟨trivial, by have := HKk.out; omega⟩)]; exact HKk.out.symm)).mono ?_
          rintro e w6 ⟨rfl, hk⟩
          have hab := Nat.lt_of_lt_of_le hab hk.size
          have cr := (hk.cell (p := ⟨_, _, none⟩) (by assumption) id).trans cr
          have HK := hide (HK.out.then hk)
          clear hk
          go_wp2_with (first | (go_at_call 10; refine (awake_any _).mono ?_; rintro e w' ⟨rfl, hk⟩))
          go_ret
          exact ⟨rfl, HK.out.then (by assumption)⟩
        · have he1 : (x == t) = false := by simp [he]
          have HHE := hide he
          clear he
          go_wp2_with fail
          refine (first_at a6 (N + 1) c6 _ ((r : Int) + 1) _ HI6.out HCI.out HNE.out (by rw [HOF.out, if_neg (by have := HHE.out; omega), if_pos (by have := HKk.out; omega)]; rfl)).mono ?_
          rintro e w6 ⟨rfl, hk⟩
          have hab := Nat.lt_of_lt_of_le hab hk.size
          have cr := (hk.cell (p := ⟨_, _, none⟩) (by assumption) id).trans cr
          have HK := hide (HK.out.then hk)
          clear hk
          go_wp2_with (first | (go_at_call 10; refine (awake_any _).mono ?_; rintro e w' ⟨rfl, hk⟩))
          go_ret
          exact ⟨rfl, HK.out.then (by assumption)⟩
      · have y9 : (r : Int) < K := by omega
        by_cases he : x = t
        · subst he
          go_wp2_with fail
          refine (first_at a6 (N + 1) c6 _ ((r : Int)) _ HI6.out HCI.out HNE.out (by rw [HOF.out, if_neg (by have := HKk.out; omega), if_neg (by have := HKk.out; omega)])).mono ?_
          rintro e w6 ⟨rfl, hk⟩
          have hab := Nat.lt_of_lt_of_le hab hk.size
          have cr := (hk.cell (p := ⟨_, _, none⟩) (by assumption) id).trans cr
          have HK := hide (HK.out.then hk)
          clear hk
          go_wp2_with (first | (go_at_call 10; refine (awake_any _).mono ?_; rintro e w' ⟨rfl, hk⟩))
          go_ret
          exact ⟨rfl, HK.out.then (by assumption)⟩
        · have he1 : (x == t) = false := by simp [he]
          clear he
          go_wp2_with fail
          refine (first_at a6 (N + 1) c6 _ ((r : Int)) _ HI6.out HCI.out HNE.out (by rw [HOF.out, if_neg (by have := HKk.out; omega), if_neg (by have := HKk.out; omega)])).mono ?_
          rintro e w6 ⟨rfl, hk⟩
          have hab := Nat.lt_of_lt_of_le hab hk.size
          have cr := (hk.cell (p := ⟨_, _, none⟩) (by assumption) id).trans cr
          have HK := hide (HK.out.then hk)
          clear hk
          go_wp2_with (first | (go_at_call 10; refine (awake_any _).mono ?_; rintro e w' ⟨rfl, hk⟩))
          go_ret
          exact ⟨rfl, HK.out.then (by assumption)⟩
  | some ad =>
    go_wp2_with (at_builtin; refine wpList_append_own _ rfl _ _ 22 rfl w.heap.size 3 i0 (.int .i64 0) 1 8 Try.underlying22 hi hz0 hz1 hz2 rfl (by decide) _ _ _ rfl hO ad n' c' ((made zs).map (Value.int .i64)) rfl ?qc1 ?qc2 ?qc3 ?qc4 ?qc5 ?qc6 ?_)
    case qc1 => simp [hlen.out]
    case qc2 =>
      intro j u hj
      have hjn : j < (made zs).length := by
        have := (List.getElem?_eq_some_iff.1 hj).1
        simpa using this
      have hjn2 : j < n' := by rw [← hlen.out]; exact hjn
      obtain ⟨b, off, hae, _, hc⟩ := HI.out.at (by omega)
      cases hae
      rw [Addr.add_lit, hc j hjn2, ← hj, vals_at hjn]
    case qc3 => exact one_vals
    case qc4 => unfold maxLen; omega
    case qc5 => omega
    case qc6 => omega
    intro v' w2 hown hgrow hnil
    have hown2 : w2.ownsRow w.heap.size 3 1 v' (1 + n') ((20 :: made zs).map (Value.int .i64)) := by simpa using hown
    obtain ⟨g, c2, rfl, hg, hO2⟩ := own_of hown2 (by omega)
    have HO2 := hide hO2
    have HK := hide (keeps_grown HK.out hgrow (by intro k hk; simp [Value.ownBlock] at hk; right; omega))
    have hroom := hO2.room
    clear hown hgrow hnil hO2 hO
    go_wp2_with fail
    generalize hM : min (1 + (n' : Int)) 11 = M at *
    obtain ⟨N, rfl, hN⟩ : ∃ N : Nat, M = (N : Int) ∧ N = min (1 + n') 11 := ⟨min (1 + n') 11, by omega, rfl⟩
    rw [Int.toNat_natCast]
    have HI := hide (show Ints w2 (some ⟨g, 0, none⟩) N (moreL zs) by
      have h1 := HO2.out.ints (by simp [hlen.out]; omega) (by omega)
      have h2 := h1.take (m := N) (by omega)
      have h3 : moreL zs = (20 :: made zs).take N := by
        unfold moreL
        by_cases hle : 1 + n' ≤ 11
        · rw [List.take_of_length_le (by simp [hlen.out]; omega), List.take_of_length_le (by simp [hlen.out]; omega)]
        · rw [show N = 11 by omega]
      rw [h3]
      exact h2)
    have hlN : (moreL zs).length = N := HI.out.len
    clear hM hN HO2
    have hlenY := moreL_len zs
    have HC := hide (moreL_chk zs)
    have HBD := hide (moreL_bd zs)
    generalize moreL zs = ys at *
    have hx0 : ys ≠ [] := by intro h; rw [h] at hlenY; simp at hlenY
    have HX := hide hx0
    have hr := ofI_lt hx0
    have HII := hide (fun k x (h : k ≤ ys.length) => ins_ofI (ys := ys) (k := k) (x := x) h hx0)
    have HTI : Hid (ys.getD (ofI ys) 0 = ofT ys) := rfl
    have HF := hide (fun a n cap w h => first_at a n cap ys (ofI ys) w h HC.out hx0 rfl)
    clear hx0
    generalize ofT ys = t at *
    generalize ofI ys = r at *
    have z0 : (0 : Int) ≤ (r : Int) := by omega
    have z1 : (r : Int) < (N : Int) := by omega
    have z7 : ¬ (r : Int) < 0 := by omega
    have z8 : ¬ (N : Int) ≤ (r : Int) := by omega
    refine (HF.out _ N _ _ HI.out).mono ?_
    rintro e w3 ⟨rfl, hk⟩
    have HI := hide (HI.out.non hk)
    have HK := hide (HK.out.then hk)
    clear hk
    go_wp2_with fail
    refine (clone_own _ N _ ys _ HI.out (by omega)).mono ?_
    rintro e w4 ⟨g2, c3, rfl, hg2, hO2, hk⟩
    have HG2 := hide hg2
    have HO2 := hide hO2
    have HI0 := HI
    have HI := hide (HI.out.non hk)
    have HK3 := HK
    have HK := hide (HK.out.then hk)
    clear hk hg2 hO2
    go_wp2_with fail
    have HK0 := bnd_mod hp0 (show 0 ≤ N by omega)
    obtain ⟨k0, k1⟩ := HK0
    have hx1 : 1 ≤ 1 + q % 60 ∧ 1 + q % 60 ≤ 60 := by omega
    obtain ⟨x1, x2⟩ := hx1
    generalize p % ((N : Int) + 1) = K at *
    generalize 1 + q % 60 = x at *
    obtain ⟨k, hKk⟩ : ∃ k : Nat, K = (k : Int) := ⟨K.toNat, by omega⟩
    have HKk := hide hKk
    have hkN : k ≤ N := by omega
    have HCI := hide (ins_chk (x := x) (by omega) HBD.out (show k ≤ ys.length by omega) ⟨x1, x2⟩)
    have HOF := hide (HII.out k x (by omega))
    have hg2lt := HO2.out.lt
    have HKb := hide ((Keeps.refl Non w4).alloc (.cells #[.int .i64 x] 3))
    have HBb := hide (Blk.new w4 [.int .i64 x] 3)
    clear hKk
    refine (insert_at g2 _ N k c3 K ys x _ hlN (by omega) (by omega) hkN HKk.out (HO2.out.alloc _) HBb.out (by omega)).mono ?_
    rintro e w5 ⟨a6, c6, rfl, hI6, hk⟩
    have HI6 := hide hI6
    have HI := hide (Ints.past HI0.out HG2.out (HI.out.non HKb.out) hk)
    have HK := hide ((HK.out.then HKb.out).trans hk (by intro i hi e; have := HK3.out.size; have := HG2.out; omega))
    clear hk hI6 HKb HBb
    obtain ⟨ab, ao, hae, hab, hcl⟩ := HI.out.at (by omega)
    cases hae
    have cr := hcl r (by omega)
    rw [HTI.out, Nat.zero_add] at cr
    clear hcl
    have hne : insL ys k x ≠ [] := by simp [insL]
    have HNE := hide hne
    clear hne
    by_cases hlt : x < t
    · have y9 : ¬ t ≤ x := by omega
      go_wp2_with fail
      refine (first_at a6 (N + 1) c6 _ (K) _ HI6.out HCI.out HNE.out (by rw [HOF.out, if_pos (.inl hlt)]; exact HKk.out.symm)).mono ?_
      rintro e w6 ⟨rfl, hk⟩
      have hab := Nat.lt_of_lt_of_le hab hk.size
      have cr := (hk.cell (p := ⟨_, _, none⟩) (by assumption) id).trans cr
      have HK := hide (HK.out.then hk)
      clear hk
      go_wp2_with (first | (go_at_call 10; refine (awake_any _).mono ?_; rintro e w' ⟨rfl, hk⟩))
      go_ret
      exact ⟨rfl, HK.out.then (by assumption)⟩
    · by_cases hkr : K ≤ (r : Int)
      · by_cases he : x = t
        · subst he
          go_wp2_with fail
          refine (first_at a6 (N + 1) c6 _ (K) _ HI6.out HCI.out HNE.out (by rw [HOF.out, if_pos (.inr ⟨trivial, by have := HKk.out; omega⟩)]; exact HKk.out.symm)).mono ?_
          rintro e w6 ⟨rfl, hk⟩
          have hab := Nat.lt_of_lt_of_le hab hk.size
          have cr := (hk.cell (p := ⟨_, _, none⟩) (by assumption) id).trans cr
          have HK := hide (HK.out.then hk)
          clear hk
          go_wp2_with (first | (go_at_call 10; refine (awake_any _).mono ?_; rintro e w' ⟨rfl, hk⟩))
          go_ret
          exact ⟨rfl, HK.out.then (by assumption)⟩
        · have he1 : (x == t) = false := by simp [he]
          have HHE := hide he
          clear he
          go_wp2_with fail
          refine (first_at a6 (N + 1) c6 _ ((r : Int) + 1) _ HI6.out HCI.out HNE.out (by rw [HOF.out, if_neg (by have := HHE.out; omega), if_pos (by have := HKk.out; omega)]; rfl)).mono ?_
          rintro e w6 ⟨rfl, hk⟩
          have hab := Nat.lt_of_lt_of_le hab hk.size
          have cr := (hk.cell (p := ⟨_, _, none⟩) (by assumption) id).trans cr
          have HK := hide (HK.out.then hk)
          clear hk
          go_wp2_with (first | (go_at_call 10; refine (awake_any _).mono ?_; rintro e w' ⟨rfl, hk⟩))
          go_ret
          exact ⟨rfl, HK.out.then (by assumption)⟩
      · have y9 : (r : Int) < K := by omega
        by_cases he : x = t
        · subst he
          go_wp2_with fail
          refine (first_at a6 (N + 1) c6 _ ((r : Int)) _ HI6.out HCI.out HNE.out (by rw [HOF.out, if_neg (by have := HKk.out; omega), if_neg (by have := HKk.out; omega)])).mono ?_
          rintro e w6 ⟨rfl, hk⟩
          have hab := Nat.lt_of_lt_of_le hab hk.size
          have cr := (hk.cell (p := ⟨_, _, none⟩) (by assumption) id).trans cr
          have HK := hide (HK.out.then hk)
          clear hk
          go_wp2_with (first | (go_at_call 10; refine (awake_any _).mono ?_; rintro e w' ⟨rfl, hk⟩))
          go_ret
          exact ⟨rfl, HK.out.then (by assumption)⟩
        · have he1 : (x == t) = false := by simp [he]
          clear he
          go_wp2_with fail
          refine (first_at a6 (N + 1) c6 _ ((r : Int)) _ HI6.out HCI.out HNE.out (by rw [HOF.out, if_neg (by have := HKk.out; omega), if_neg (by have := HKk.out; omega)])).mono ?_
          rintro e w6 ⟨rfl, hk⟩
          have hab := Nat.lt_of_lt_of_le hab hk.size
          have cr := (hk.cell (p := ⟨_, _, none⟩) (by assumption) id).trans cr
          have HK := hide (HK.out.then hk)
          clear hk
          go_wp2_with (first | (go_at_call 10; refine (awake_any _).mono ?_; rintro e w' ⟨rfl, hk⟩))
          go_ret
          exact ⟨rfl, HK.out.then (by assumption)⟩
end Go.Proofs.Ytbgcglgbaekfeaa
