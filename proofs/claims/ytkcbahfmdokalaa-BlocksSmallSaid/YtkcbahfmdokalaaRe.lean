/-
  Walks over layer 6's reference: Join. No condition.
-/
import Derived.Test.YtkcbahfmdokalaaRd
import Derived.Test.YtkcbahfmdokalaaN
namespace Go.Proofs.Ytkcbahfmdokalaa
open Go.RowKit
attribute [local go_sem] onto_cell onto_frozen
set_option linter.unusedVariables false
def sumN (l : List Int) : Nat := (l.map Int.toNat).sum
theorem sumN_set : ∀ {l : List Int} {i : Nat} {v : Int}, i < l.length → 0 ≤ v → v < l.getD i 0 → sumN (l.set i v) < sumN l
  | [], i, v, h, _, _ => by simp at h
  | x :: r, 0, v, _, h0, hv => by
    simp only [List.getD_cons_zero] at hv
    simp only [sumN, List.set_cons_zero, List.map_cons, List.sum_cons]
    omega
  | x :: r, i + 1, v, h, h0, hv => by
    simp only [List.getD_cons_succ] at hv
    have := sumN_set (l := r) (i := i) (v := v) (by simpa using h) h0 hv
    simp only [sumN, List.set_cons_succ, List.map_cons, List.sum_cons] at this ⊢
    omega
/-- Related at once. -/
def Rel1 (p q : List Int) (i k : Nat) : Prop := p.getD i 0 = p.getD k 0 ∨ q.getD i 0 = q.getD k 0
/-- Labels, each of which is an element that must be tied. -/
structure JR (n : Nat) (p q out : List Int) : Prop where
  len : out.length = n
  bd : ∀ i, i < n → 0 ≤ out.getD i 0 ∧ out.getD i 0 < n
  least : ∀ R, Fixes n p q R → ∀ i, i < n → R.getD (out.getD i 0).toNat 0 = R.getD i 0
theorem jr_start (n : Nat) (p q : List Int) : JR n p q (upTo n) :=
  ⟨upTo_length n, fun i hi => by rw [upTo_at hi]; omega, fun R _ i hi => by rw [upTo_at hi, Int.toNat_natCast]⟩
theorem jr_set {n : Nat} {p q out : List Int} (h : JR n p q out) {i k : Nat} (hi : i < n) (hk : k < n) (hr : Rel1 p q i k) (hlt : out.getD k 0 < out.getD i 0) : JR n p q (out.set i (out.getD k 0)) := by
  have hg : ∀ j, (out.set i (out.getD k 0)).getD j 0 = if i = j then out.getD k 0 else out.getD j 0 := fun j => getD_setI (by rw [h.len]; exact hi)
  refine ⟨by simp [h.len], fun j hj => ?_, fun R hR j hj => ?_⟩
  · rw [hg]
    split
    · exact h.bd k hk
    · exact h.bd j hj
  · rw [hg]
    split
    · rename_i e
      subst e
      rw [h.least R hR k hk]
      exact (hR i k hi hk hr).symm
    · exact h.least R hR j hj
theorem jr_ties {n : Nat} {p q out : List Int} (h : JR n p q out) (hf : ∀ x y, x < n → y < n → Rel1 p q x y → out.getD x 0 ≤ out.getD y 0) : Ties n p q out := by
  refine ⟨fun i j hi hj hr => ?_, fun R hR i j hi hj he => ?_⟩
  · have h1 := hf i j hi hj hr
    have h2 := hf j i hj hi (hr.imp Eq.symm Eq.symm)
    omega
  · rw [← h.least R hR i hi, ← h.least R hR j hj, he]
/-- What the labels in memory come to. -/
def sumW (w : World) (O n : Nat) : Nat := ((List.range n).map fun j => match w.cell? ⟨O, j, none⟩ with | some (.int _ v) => v.toNat | _ => 0).sum
theorem sumW_eq {w : World} {O n : Nat} {out : List Int} (h : Blk w O (out.map (Value.int .i64)) 3) (hl : out.length = n) : sumW w O n = sumN out := by
  unfold sumW sumN
  congr 1
  apply List.ext_getElem
  · simp [hl]
  · intro i h1 h2
    simp only [List.length_map, List.length_range] at h1 h2
    simp only [List.getElem_map, List.getElem_range]
    rw [h.cell, int_row h2, getD_num h2]
set_option maxRecDepth 100000 in
set_option maxHeartbeats 16000000 in
theorem joinR_l (a b : Option Addr) (n cap cap2 : Nat) (p q : List Int) (w : World) (h : Ints w a n p) (h2 : Ints w b n q) (hp : Pt n p) (hq : Pt n q) (hn : n ≤ 1024) :
    Calls Try.prog 63 #[.slice a n cap, .slice b n cap2] w fun e w' => ∃ v, e = .returned v ∧ GotInts w w' v (joinL p q) := by
  have HX := hide h
  have HY := hide h2
  have HP := hide hp
  have HQ := hide hq
  have hms := make22 w n (by omega)
  obtain ⟨O, hO⟩ : ∃ B, w.heap.size = B := ⟨_, rfl⟩
  have HOs := hide hO
  have HOk : Hid (w.heap.size ≤ O) := by show _ ≤ _; omega
  have HB0 : Hid (Blk (w.alloc (.cells (Array.replicate n (.int .i64 0)) 3)) O (rowF n (upF 0)) 3) := by
    have e : rowF n (upF 0) = List.replicate n (.int .i64 0) := by
      rw [← rowF_zero]
      exact rowF_congr fun j _ => by simp [upF]
    rw [e, ← List.toArray_replicate]
    exact Blk.newAt w (List.replicate n (.int .i64 0)) 3 hO.symm
  have HK0 := hide ((Keeps.refl Non w).alloc (.cells (Array.replicate n (.int .i64 0)) 3))
  clear h h2 hp hq hO
  go_enter Try.func63, Try.ntmps63
  go_wp2_with fail
  rw [HOs.out]
  obtain ⟨W, hW⟩ : ∃ W, w.alloc (.cells (Array.replicate n (.int .i64 0)) 3) = W := ⟨_, rfl⟩
  rw [hW] at HB0 HK0 hms
  try rw [hW]
  clear hW hms
  go_loopw [6] (fun t wr => ∃ (k : Nat), k ≤ n ∧ t = .int .i64 k ∧ Hid (Blk wr O (rowF n (upF k)) 3) ∧ Hid (Keeps Non w wr)) (fun t _ => n - (intOf t).toNat)
  case atStart => exact ⟨0, by omega, rfl, HB0.out, HK0.out⟩
  case round =>
    clear HB0 HK0
    obtain ⟨k, hk, rfl, HB, HK⟩ := hrel
    by_cases hlt : k < n
    · have cO : wr.cell? ⟨O, k, none⟩ = some (.int .i64 (upF k k)) := by rw [HB.out.cell]; exact rowF_at _ hlt
      have fO := HB.out.free k none
      have lO := HB.out.lt
      have k0 : (0 : Int) ≤ (k : Int) := by omega
      have k1 : (k : Int) < (n : Int) := by omega
      go_wp2_with fail
      go_roundw
      case rel => exact ⟨k + 1, by omega, by go_num, by
        have h1 := HB.out.store k (.int .i64 (k : Int))
        rw [rowF_set, upF_step] at h1
        exact h1, HK.out.set (b := O) (.inr HOk.out) _⟩
      case measure => simp [intOf]; omega
    · obtain rfl : n = k := by omega
      have y9 : ¬ (n : Int) < (n : Int) := by omega
      have HB1 : Hid (Blk wr O ((upTo n).map (Value.int .i64)) 3) := by
        show Blk _ _ _ _
        rw [← upF_end]
        exact HB.out
      go_wp2_with fail
      go_loopw [7] (fun t wr => ∃ (out : List Int) (ch : Bool), t = .bool ch ∧ Hid (JR n p q out) ∧ Hid (ch = false → ∀ x y, x < n → y < n → Rel1 p q x y → out.getD x 0 ≤ out.getD y 0) ∧ Hid (Blk wr O (out.map (Value.int .i64)) 3) ∧ Hid (Keeps Non w wr)) (fun t wr => 2 * sumW wr O n + (match t with | .bool true => 1 | _ => 0))
      case atStart => exact ⟨upTo n, true, rfl, jr_start n p q, (fun h => by cases h), HB1.out, HK.out⟩
      case round =>
        clear HB1 HK HB
        obtain ⟨out0, ch, rfl, HJ, HF, HB, HK⟩ := hrel
        cases ch with
        | false =>
          have hj := HJ.out
          have hties := jr_ties hj (HF.out rfl)
          have he := join_eq HP.out HQ.out (J := numb [] out0) ⟨by rw [numb_length, hj.len], isP_numb _⟩ (ties_numb hj.len hties)
          have hI := ints_of_blk HB.out (by rw [hj.len]; omega)
          rw [hj.len] at hI
          have hC := intsR_l (some ⟨O, 0, none⟩) n n out0 wr hI (by omega)
          rw [← he] at hC
          have HC := hide hC
          clear hj hties he hI hC
          go_wp2_with fail
          refine HC.out.mono ?_
          rintro e w4 ⟨v, rfl, a7, c7, rfl, hI, hk4⟩
          have HE : Hid (GotInts w w4 (.slice a7 (joinL p q).length c7) (joinL p q)) := ⟨a7, c7, rfl, hI, HK.out.then hk4⟩
          clear hI hk4
          go_wp2_with fail
          go_ret
          exact ⟨_, rfl, HE.out⟩
        | true =>
          have HS0 : Hid (sumW wr O n = sumN out0) := sumW_eq HB.out HJ.out.len
          go_wp2_with fail
          go_loopw [8, 7] (fun t s wr => ∃ (i : Nat) (out : List Int) (ch : Bool), i ≤ n ∧ t = .int .i64 i ∧ s = .bool ch ∧ Hid (JR n p q out) ∧ Hid (ch = false → out = out0 ∧ ∀ x y, x < i → y < n → Rel1 p q x y → out.getD x 0 ≤ out.getD y 0) ∧ Hid (ch = true → sumN out < sumN out0) ∧ sumN out ≤ sumN out0 ∧ Hid (Blk wr O (out.map (Value.int .i64)) 3) ∧ Hid (Keeps Non w wr)) (fun t _ _ => n - (intOf t).toNat)
          case atStart => exact ⟨0, out0, false, by omega, rfl, rfl, HJ.out, (fun _ => ⟨rfl, fun x y h => by omega⟩), (fun h => by cases h), Nat.le_refl _, HB.out, HK.out⟩
          case round =>
            clear HJ HF HB HK
            obtain ⟨i, out, ch, hi, rfl, rfl, HJ, HF, HT, hsl, HB, HK⟩ := hrel
            by_cases hlt : i < n
            · have i0 : (0 : Int) ≤ (i : Int) := by omega
              have i1 : (i : Int) < (n : Int) := by omega
              go_wp2_with fail
              go_loopw [9, 7] (fun t s wr => ∃ (k : Nat) (out : List Int) (ch : Bool), k ≤ n ∧ t = .int .i64 k ∧ s = .bool ch ∧ Hid (JR n p q out) ∧ Hid (ch = false → out = out0 ∧ (∀ x y, x < i → y < n → Rel1 p q x y → out.getD x 0 ≤ out.getD y 0) ∧ ∀ y, y < k → Rel1 p q i y → out.getD i 0 ≤ out.getD y 0) ∧ Hid (ch = true → sumN out < sumN out0) ∧ sumN out ≤ sumN out0 ∧ Hid (Blk wr O (out.map (Value.int .i64)) 3) ∧ Hid (Keeps Non w wr)) (fun t _ _ => n - (intOf t).toNat)
              case atStart => exact ⟨0, out, ch, by omega, rfl, rfl, HJ.out, (fun h => ⟨(HF.out h).1, (HF.out h).2, fun y h => by omega⟩), HT.out, hsl, HB.out, HK.out⟩
              case round =>
                clear HJ HF HT hsl HB HK
                obtain ⟨k, out, ch, hk, rfl, rfl, HJ, HF, HT, hsl, HB, HK⟩ := hrel
                have HSl := hide hsl
                clear hsl
                by_cases hlk : k < n
                · obtain ⟨b5, o5, rfl, hb5, hc5⟩ := (HX.out.non HK.out).at (by omega)
                  obtain ⟨b6, o6, rfl, hb6, hc6⟩ := (HY.out.non HK.out).at (by omega)
                  have l1 := hc5 i hlt
                  have l2 := hc5 k hlk
                  have l3 := hc6 i hlt
                  have l4 := hc6 k hlk
                  have l5 : wr.cell? ⟨O, i, none⟩ = some (.int .i64 (out.getD i 0)) := by rw [HB.out.cell]; exact int_row (by rw [HJ.out.len]; exact hlt)
                  have l6 : wr.cell? ⟨O, k, none⟩ = some (.int .i64 (out.getD k 0)) := by rw [HB.out.cell]; exact int_row (by rw [HJ.out.len]; exact hlk)
                  have f5 := HB.out.free i none
                  have lO := HB.out.lt
                  have bk := HJ.out.bd k hlk
                  obtain ⟨x, hx⟩ : ∃ x, p.getD i 0 = x := ⟨_, rfl⟩
                  obtain ⟨y, hy⟩ : ∃ x, p.getD k 0 = x := ⟨_, rfl⟩
                  obtain ⟨u, hu⟩ : ∃ x, q.getD i 0 = x := ⟨_, rfl⟩
                  obtain ⟨z, hz⟩ : ∃ x, q.getD k 0 = x := ⟨_, rfl⟩
                  obtain ⟨vi, hvi⟩ : ∃ x, out.getD i 0 = x := ⟨_, rfl⟩
                  obtain ⟨vk, hvk⟩ : ∃ x, out.getD k 0 = x := ⟨_, rfl⟩
                  have HE := hide (And.intro hx (And.intro hy (And.intro hu hz)))
                  have HV := hide (And.intro hvi hvk)
                  rw [hx] at l1
                  rw [hy] at l2
                  rw [hu] at l3
                  rw [hz] at l4
                  rw [hvi] at l5
                  rw [hvk] at l6 bk
                  have vk0 : 0 ≤ vk := bk.1
                  have HBu : Hid (∀ u, Keeps Non wr u → u.cell? ⟨O, i, none⟩ = some (.int .i64 vi) ∧ u.cell? ⟨O, k, none⟩ = some (.int .i64 vk) ∧ u.frozen? ⟨O, i, none⟩ = false ∧ O < u.heap.size) := fun u hu => ⟨(hu.cell (p := ⟨O, i, none⟩) lO (fun x => x)).trans l5, (hu.cell (p := ⟨O, k, none⟩) lO (fun x => x)).trans l6, (hu.frozen (p := ⟨O, i, none⟩) lO (fun x => x)).trans f5, Nat.lt_of_lt_of_le lO hu.size⟩
                  have k0 : (0 : Int) ≤ (k : Int) := by omega
                  have k1 : (k : Int) < (n : Int) := by omega
                  clear hc5 hc6 hx hy hu hz hvi hvk bk
                  by_cases hlt2v : vk < vi
                  · have hlt2 : out.getD k 0 < out.getD i 0 := by rw [HV.out.1, HV.out.2]; exact hlt2v
                    by_cases hxy : x = y
                    · have hR : Rel1 p q i k := .inl (by rw [HE.out.1, HE.out.2.1, hxy])
                      subst hxy
                      have HM := hide (jr_set HJ.out hlt hlk hR hlt2)
                      have HSm := hide (sumN_set (l := out) (i := i) (v := vk) (by rw [HJ.out.len]; exact hlt) vk0 (by rw [HV.out.1]; exact hlt2v))
                      go_wp2_with fail
                      refine wp_region_onto (by kernel_rfl) (by kernel_rfl) ?_
                      try simp only [List.append_eq, List.cons_append, List.nil_append]
                      repeat (go_big_quiet_step (fail))
                      refine wpQuiet_nil ?_
                      rintro _ ⟨u0, rfl⟩
                      have KO := hide (onto_keeps wr u0)
                      obtain ⟨d1, d2, d3, d4⟩ := HBu.out _ KO.out
                      go_wp2_with fail
                      go_roundw
                      case rel => exact ⟨k + 1, out.set i vk, true, by omega, by go_num, rfl, by rw [← HV.out.2]; exact HM.out, (fun h => by cases h), (fun _ => by have := HSm.out; have := HSl.out; omega), by have := HSm.out; have := HSl.out; omega, by
                        have h1 := (HB.out.keeps KO.out (fun x => x)).store i (.int .i64 vk)
                        rw [← List.map_set] at h1
                        exact h1, (HK.out.then KO.out).set (b := O) (.inr HOk.out) _⟩
                      case measure => simp [intOf]; omega
                    · have hxy2 : (x == y) = false := by simpa using hxy
                      by_cases huz : u = z
                      · have hR : Rel1 p q i k := .inr (by rw [HE.out.2.2.1, HE.out.2.2.2, huz])
                        subst huz
                        have HM := hide (jr_set HJ.out hlt hlk hR hlt2)
                        have HSm := hide (sumN_set (l := out) (i := i) (v := vk) (by rw [HJ.out.len]; exact hlt) vk0 (by rw [HV.out.1]; exact hlt2v))
                        go_wp2_with fail
                        refine wp_region_onto (by kernel_rfl) (by kernel_rfl) ?_
                        try simp only [List.append_eq, List.cons_append, List.nil_append]
                        repeat (go_big_quiet_step (fail))
                        refine wpQuiet_nil ?_
                        rintro _ ⟨u0, rfl⟩
                        have KO := hide (onto_keeps wr u0)
                        obtain ⟨d1, d2, d3, d4⟩ := HBu.out _ KO.out
                        go_wp2_with fail
                        go_roundw
                        case rel => exact ⟨k + 1, out.set i vk, true, by omega, by go_num, rfl, by rw [← HV.out.2]; exact HM.out, (fun h => by cases h), (fun _ => by have := HSm.out; have := HSl.out; omega), by have := HSm.out; have := HSl.out; omega, by
                          have h1 := (HB.out.keeps KO.out (fun x => x)).store i (.int .i64 vk)
                          rw [← List.map_set] at h1
                          exact h1, (HK.out.then KO.out).set (b := O) (.inr HOk.out) _⟩
                        case measure => simp [intOf]; omega
                      · have huz2 : (u == z) = false := by simpa using huz
                        have HNo : Hid (¬ Rel1 p q i k) := fun h => by
                          rcases h with h | h
                          · exact hxy (by rw [← HE.out.1, ← HE.out.2.1]; exact h)
                          · exact huz (by rw [← HE.out.2.2.1, ← HE.out.2.2.2]; exact h)
                        clear hlt2
                        go_wp2_with fail
                        refine wp_region_onto (by kernel_rfl) (by kernel_rfl) ?_
                        try simp only [List.append_eq, List.cons_append, List.nil_append]
                        repeat (go_big_quiet_step (fail))
                        refine wpQuiet_nil ?_
                        rintro _ ⟨u0, rfl⟩
                        have KO := hide (onto_keeps wr u0)
                        go_wp2_with fail
                        go_roundw
                        case rel => exact ⟨k + 1, out, ch, by omega, by go_num, rfl, HJ.out, (fun h => ⟨(HF.out h).1, (HF.out h).2.1, fun y hy hr => by
                          rcases Nat.lt_succ_iff_lt_or_eq.1 hy with h1 | rfl
                          · exact (HF.out h).2.2 y h1 hr
                          · exact absurd hr HNo.out⟩), HT.out, HSl.out, HB.out.keeps KO.out (fun x => x), HK.out.then KO.out⟩
                        case measure => simp [intOf]; omega
                  · have HGe : Hid (out.getD i 0 ≤ out.getD k 0) := by show _ ≤ _; rw [HV.out.1, HV.out.2]; omega
                    have hd2 : decide (vk < vi) = false := by simpa using hlt2v
                    by_cases hxy : x = y
                    · subst hxy
                      go_wp2_with fail
                      refine wp_region_onto (by kernel_rfl) (by kernel_rfl) ?_
                      try simp only [List.append_eq, List.cons_append, List.nil_append]
                      repeat (go_big_quiet_step (fail))
                      refine wpQuiet_nil ?_
                      rintro _ ⟨u0, rfl⟩
                      have KO := hide (onto_keeps wr u0)
                      go_wp2_with fail
                      go_roundw
                      case rel => exact ⟨k + 1, out, ch, by omega, by go_num, rfl, HJ.out, (fun h => ⟨(HF.out h).1, (HF.out h).2.1, fun y hy hr => by
                        rcases Nat.lt_succ_iff_lt_or_eq.1 hy with h1 | rfl
                        · exact (HF.out h).2.2 y h1 hr
                        · exact HGe.out⟩), HT.out, HSl.out, HB.out.keeps KO.out (fun x => x), HK.out.then KO.out⟩
                      case measure => simp [intOf]; omega
                    · have hxy2 : (x == y) = false := by simpa using hxy
                      by_cases huz : u = z
                      · subst huz
                        go_wp2_with fail
                        refine wp_region_onto (by kernel_rfl) (by kernel_rfl) ?_
                        try simp only [List.append_eq, List.cons_append, List.nil_append]
                        repeat (go_big_quiet_step (fail))
                        refine wpQuiet_nil ?_
                        rintro _ ⟨u0, rfl⟩
                        have KO := hide (onto_keeps wr u0)
                        go_wp2_with fail
                        go_roundw
                        case rel => exact ⟨k + 1, out, ch, by omega, by go_num, rfl, HJ.out, (fun h => ⟨(HF.out h).1, (HF.out h).2.1, fun y hy hr => by
                          rcases Nat.lt_succ_iff_lt_or_eq.1 hy with h1 | rfl
                          · exact (HF.out h).2.2 y h1 hr
                          · exact HGe.out⟩), HT.out, HSl.out, HB.out.keeps KO.out (fun x => x), HK.out.then KO.out⟩
                        case measure => simp [intOf]; omega
                      · have huz2 : (u == z) = false := by simpa using huz
                        go_wp2_with fail
                        refine wp_region_onto (by kernel_rfl) (by kernel_rfl) ?_
                        try simp only [List.append_eq, List.cons_append, List.nil_append]
                        repeat (go_big_quiet_step (fail))
                        refine wpQuiet_nil ?_
                        rintro _ ⟨u0, rfl⟩
                        have KO := hide (onto_keeps wr u0)
                        go_wp2_with fail
                        go_roundw
                        case rel => exact ⟨k + 1, out, ch, by omega, by go_num, rfl, HJ.out, (fun h => ⟨(HF.out h).1, (HF.out h).2.1, fun y hy hr => by
                          rcases Nat.lt_succ_iff_lt_or_eq.1 hy with h1 | rfl
                          · exact (HF.out h).2.2 y h1 hr
                          · exact HGe.out⟩), HT.out, HSl.out, HB.out.keeps KO.out (fun x => x), HK.out.then KO.out⟩
                        case measure => simp [intOf]; omega
                · obtain rfl : n = k := by omega
                  have y8 : ¬ (n : Int) < (n : Int) := by omega
                  go_wp2_with fail
                  go_roundw
                  case rel => exact ⟨i + 1, out, ch, by omega, by go_num, rfl, HJ.out, (fun h => ⟨(HF.out h).1, fun x y hx hy hr => by
                    rcases Nat.lt_succ_iff_lt_or_eq.1 hx with h1 | rfl
                    · exact (HF.out h).2.1 x y h1 hy hr
                    · exact (HF.out h).2.2 y hy hr⟩), HT.out, HSl.out, HB.out, HK.out⟩
                  case measure => simp [intOf]; omega
            · obtain rfl : n = i := by omega
              have y8 : ¬ (n : Int) < (n : Int) := by omega
              have HS1 : Hid (sumW wr O n = sumN out) := sumW_eq HB.out HJ.out.len
              go_wp2_with fail
              go_roundw
              case rel => exact ⟨out, ch, rfl, HJ.out, (fun h x y hx hy hr => (HF.out h).2 x y hx hy hr), HB.out, HK.out⟩
              case measure =>
                rw [HS0.out, HS1.out]
                cases ch with
                | false => simp; omega
                | true =>
                  have := HT.out rfl
                  simp
                  omega
end Go.Proofs.Ytkcbahfmdokalaa
