/-
  Walks over layer 6's reference: Quotient. No condition.
-/
import Derived.Test.YtkcbahfmdokalaaRh
namespace Go.Proofs.Ytkcbahfmdokalaa
open Go.RowKit
attribute [local go_sem] onto_cell onto_frozen
set_option linter.unusedVariables false
set_option maxRecDepth 100000 in
set_option maxHeartbeats 8000000 in
theorem quotientR_l (a b0 : Option Addr) (n cap cap2 : Nat) (p : List Int) (next : List (List Int)) (w : World) (h : Ints w a n p) (h2 : Rows w b0 n next) (hp : Pt n p) (hl : NextOk n next) (hs : refineL p next = p) (hn : n ≤ 1024) :
    Calls Try.prog 52 #[.slice a n cap, .slice b0 n cap2] w fun e w' => ∃ v, e = .returned v ∧ GotRows w w' v (quotL p next) := by
  obtain ⟨i0, hi, hz0, hz1, hz2⟩ := info22_parts
  obtain ⟨i1, ji, jz0, jz1, jz2⟩ := info3_parts
  have HX := hide h
  have HP := hide hp
  have HY := hide h2
  have HNx := hide hl
  have HSt := hide hs
  obtain ⟨c, hc⟩ : ∃ c, cnt p = c := ⟨_, rfl⟩
  have HC := hide hc
  have hcn : c ≤ n := by
    have := cnt_le_length p
    rw [hp.len] at this
    omega
  have HCt : Hid (∀ w', Keeps Non w w' → Calls Try.prog 59 #[.slice a n cap] w' fun e w2 => e = .returned (.int .i64 c) ∧ w' = w2) := fun w' hk => by
    have := countR_l a n cap p w' (h.non hk) hp hn
    rwa [hc] at this
  clear h hp hc h2 hl hs
  go_enter Try.func52, Try.ntmps52
  go_wp2_with fail
  go_loopw [6, 5] (fun t v wr => ∃ (b : Nat) (S : List Value), b ≤ c ∧ t = .int .i64 b ∧ Hid (wr.ownsRow w.heap.size 22 1 v b S) ∧ Hid (Kids wr S ((quotL p next).take b) v.ownBlock) ∧ Hid (Keeps Non w wr)) (fun t _ _ => c - (intOf t).toNat)
  case atStart => exact ⟨0, [], by omega, rfl, World.ownsRow_nil _ _ _ _, kids_none _ _ _, Keeps.refl _ _⟩
  case round =>
    obtain ⟨b, S, hb, rfl, HO, HKd, HK⟩ := hrel
    have HC1 := hide (HCt.out wr HK.out)
    by_cases hlt : b < c
    · have hl : (quotL p next).length = c := by rw [quot_length, HC.out]
      obtain ⟨t0, ht0, hte⟩ := pt_onto HP.out (b := b) (by rw [HC.out]; exact hlt)
      have HT0 := hide (And.intro ht0 hte)
      have HL := hide hl
      obtain ⟨w0, hw0⟩ : ∃ w0, wr = w0 := ⟨_, rfl⟩
      have HW0 := hide hw0
      have b0' : (0 : Int) ≤ (b : Int) := by omega
      have b1 : (b : Int) < (c : Int) := by omega
      clear hl hw0 ht0 hte
      go_wp2_with fail
      refine HC1.out.mono ?_
      rintro e _ ⟨rfl, rfl⟩
      go_wp2_with fail
      go_loop [7] (fun t => ∃ (i : Nat), i ≤ t0 ∧ t = .int .i64 i) (fun t => t0 - (intOf t).toNat)
      case atStart => exact ⟨0, by omega, rfl⟩
      case round =>
        obtain ⟨i, hit, rfl⟩ := hrel
        have hin : i < n := by have := HT0.out.1; omega
        obtain ⟨b1', o1', rfl, hb1', hc1'⟩ := (HX.out.non HK.out).at (by omega)
        have ci := hc1' i hin
        obtain ⟨x, hx⟩ : ∃ x, p.getD i 0 = x := ⟨_, rfl⟩
        rw [hx] at ci
        have i0' : (0 : Int) ≤ (i : Int) := by omega
        have i1' : (i : Int) < (n : Int) := by omega
        by_cases hxb : x = b
        · have hrow : (quotL p next).getD b [] = rowOf p (next.getD i []) := by
            have := quot_row HP.out HNx.out.1 HSt.out hin
            rwa [hx, hxb, Int.toNat_natCast] at this
          obtain ⟨b2, o2, rfl, hb2, hc2⟩ := HY.out.at (by omega)
          obtain ⟨ai, ci2, l3w, hI⟩ := hc2 i hin
          have hlm := HNx.out.2 (next.getD i []) (getD_mem (by rw [HNx.out.1]; exact hin))
          obtain ⟨l, hl⟩ : ∃ l, next.getD i [] = l := ⟨_, rfl⟩
          rw [hl] at l3w hI hlm hrow
          obtain ⟨ll, hll⟩ : ∃ q, l.length = q := ⟨_, rfl⟩
          rw [hll] at l3w hI hlm
          have hl64 := hlm.1
          have HLL := hide hll
          have HI := hide hI
          have HRow := hide hrow
          have HLm := hide hlm.2
          have HB2 := hide (And.intro hb2 l3w)
          have HPp : Hid (∀ i, i < n → wr.cell? ⟨b1', o1' + i, none⟩ = some (.int .i64 (p.getD i 0))) := hc1'
          have HB1 := hide hb1'
          subst hxb
          have l3 := (HK.out.cell (p := ⟨b2, o2 + i, none⟩) hb2 (fun x => x)).trans l3w
          have m2 := Nat.lt_of_lt_of_le hb2 HK.out.size
          clear hx hc1' hrow hc2 hI hlm hl hll hb2 l3w
          go_wp2_with fail
          go_loopw [9, 8] (fun t v wi => ∃ (k : Nat), k ≤ ll ∧ t = .int .i64 k ∧ Hid (wi.ownsRow w0.heap.size 3 1 v k ((rowOf p (l.take k)).map (Value.int .i64))) ∧ Hid (Keeps Non w0 wi)) (fun t _ _ => ll - (intOf t).toNat)
          case atStart => exact ⟨0, by omega, rfl, World.ownsRow_nil _ _ _ _, by show Keeps Non _ _; rw [HW0.out]; exact Keeps.refl _ _⟩
          case round =>
            rw [HW0.out] at HO HKd HK HPp HB1
            clear l3 m2 ci hb1'
            obtain ⟨k, hk, rfl, HOi, HKi⟩ := hrel
            have hKK := HK.out.then HKi.out
            have l3 := (hKK.cell (p := ⟨b2, o2 + i, none⟩) HB2.out.1 (fun x => x)).trans HB2.out.2
            have m2 := Nat.lt_of_lt_of_le HB2.out.1 hKK.size
            by_cases hkl : k < ll
            · obtain ⟨b3, o3, rfl, hb3, hc3⟩ := (HI.out.non hKK).at (by omega)
              have c3 := hc3 k hkl
              have hrt := rowOf_take (p := p) (l := l) (i := k) (by rw [HLL.out]; exact hkl)
              have hyb := HLm.out (l.getD k 0) (getD_mem (by rw [HLL.out]; exact hkl))
              obtain ⟨y, hy⟩ : ∃ y, l.getD k 0 = y := ⟨_, rfl⟩
              rw [hy] at c3 hrt hyb
              obtain ⟨u, rfl⟩ : ∃ u : Nat, y = u := ⟨y.toNat, by omega⟩
              rw [Int.toNat_natCast] at hrt
              have c4 := (HKi.out.cell (p := ⟨b1', o1' + u, none⟩) HB1.out (fun x => x)).trans (HPp.out u (by omega))
              have m4 := Nat.lt_of_lt_of_le HB1.out HKi.out.size
              obtain ⟨v0, hv0⟩ : ∃ v0, p.getD u 0 = v0 := ⟨_, rfl⟩
              rw [hv0] at c4 hrt
              have HRt := hide hrt
              have k0' : (0 : Int) ≤ (k : Int) := by omega
              have k1' : (k : Int) < (ll : Int) := by omega
              have u0 : (0 : Int) ≤ (u : Int) := by omega
              have u1 : (u : Int) < (n : Int) := by omega
              clear hc3 hrt hyb hy hv0 hKK
              go_wp2_with (at_builtin; refine wpList_append_own _ rfl _ _ 22 rfl w0.heap.size 3 i1 (.int .i64 0) 1 8 Try.underlying22 ji jz0 jz1 jz2 rfl (by decide) _ k _ rfl (owns_keeps HOi.out ((Keeps.refl Non _).alloc _) (fun _ _ x => x)) ⟨wr.heap.size, 0, none⟩ 1 1 [.int .i64 v0] rfl ?qa1 ?qa2 ?qa3 ?qa4 ?qa5 ?qa6 ?_)
              case qa1 => rfl
              case qa2 => exact cell_one_new _ _ _
              case qa3 => first | rfl | (intro u hu; simp at hu; subst hu; rfl)
              case qa4 => unfold maxLen; omega
              case qa5 => omega
              case qa6 => (try simp); have := HKi.out.size; omega
              intro v' w5 hown hgrow hnil
              have HG := hide (And.intro hown hgrow)
              clear hown hgrow hnil
              go_wp2_with fail
              go_roundw
              case rel =>
                obtain ⟨hown, hgrow⟩ := HG.out
                refine ⟨k + 1, by omega, by go_num, ?_, keeps_grown (HKi.out.alloc _) hgrow (fun g hg => .inr (own_ge HOi.out g hg))⟩
                rw [HRt.out, List.map_append]
                exact hown
              case measure => simp [intOf]; omega
            · obtain rfl : ll = k := by omega
              have y9 : ¬ (ll : Int) < (ll : Int) := by omega
              have hOi := HOi.out
              rw [List.take_of_length_le (by rw [HLL.out]; exact Nat.le_refl _)] at hOi
              obtain ⟨a4, c4, rfl, hI⟩ := ints_of_owns hOi (by omega)
              have hlo := owns_lt hOi
              have hfr : ∀ b' o, a4 = some ⟨b', o, none⟩ → w0.heap.size ≤ b' ∧ b' < wr.heap.size := fun b' o e => hlo b' (by rw [e]; rfl)
              have HI4 := hide hI
              have HFr := hide hfr
              have HRl : Hid ((rowOf p l).length = ll) := by show _ = _; rw [rowOf_length, HLL.out]
              clear hOi hI hlo hfr hKK
              go_wp2_with (at_builtin; refine wpList_append_own_at _ rfl _ _ 36 rfl w.heap.size 22 i0 (.slice none 0 0) 1 24 Try.underlying36 hi hz0 hz1 hz2 rfl (by decide) _ b S rfl (owns_keeps HO.out (HKi.out.alloc _) (fun _ _ x => x)) ⟨wr.heap.size, 0, none⟩ 1 1 [.slice a4 ll c4] rfl ?qc1 ?qc2 ?qc3 ?qc4 ?qc5 ?qc6 ?_)
              case qc3 => first | rfl | (intro u hu; simp at hu; subst hu; rfl)
              case qc4 => unfold maxLen; omega
              case qc5 => omega
              case qc6 => (try simp); have := HK.out.size; have := HKi.out.size; omega
              intro v' w5 hown hgrow hnil hat
              have HO5 := hide hown
              have HKd5 := hide (kids_push (c4 := c4) (v' := v') HKd.out HO.out (by rw [List.length_take, HL.out]; omega) (HKi.out.alloc (.cells #[.slice a4 ll c4] 22)) HRl.out (HI4.out.non ((Keeps.refl Non _).alloc _)) (fun b' o e => by
                have := HFr.out b' o e
                rw [World.size_alloc]
                omega) hgrow (by rw [World.size_alloc]; exact hat))
              rw [← HRow.out, ← take_snocL (by rw [HL.out]; exact hlt)] at HKd5
              have HKn : Hid (Keeps Non w w5) := keeps_grown ((HK.out.then HKi.out).alloc _) hgrow (fun g hg => .inr (own_ge HO.out g hg))
              clear hown hgrow hnil hat
              go_wp2_with fail
              go_roundw
              case rel => exact ⟨b + 1, _, by omega, by go_num, HO5.out, HKd5.out, HKn.out⟩
              case measure => simp [intOf]; omega
        · have hxb2 : (x != (b : Int)) = true := by simpa using hxb
          have hit2 : i ≠ t0 := fun e => hxb (by rw [← hx, e, HT0.out.2])
          have HIt : Hid (i < t0) := by show _ < _; omega
          clear hx hc1' hit2
          go_wp2_with fail
          go_round
          case rel => exact ⟨i + 1, by have := HIt.out; omega, by go_num⟩
          case measure => have := HIt.out; simp [intOf]; omega
    · obtain rfl : c = b := by omega
      have y9 : ¬ (c : Int) < (c : Int) := by omega
      have hl : (quotL p next).length = c := by rw [quot_length, HC.out]
      have hKd := HKd.out
      rw [List.take_of_length_le (by rw [hl]; exact Nat.le_refl _)] at hKd
      obtain ⟨a6, c6, rfl, hR⟩ := kids_rows hKd HO.out hl (by omega)
      have HE : Hid (GotRows w wr (.slice a6 c c6) (quotL p next)) := ⟨a6, c6, by rw [hl], by rw [hl]; exact hR, HK.out⟩
      clear hKd hR hl
      go_wp2_with fail
      refine HC1.out.mono ?_
      rintro e _ ⟨rfl, rfl⟩
      go_wp2_with fail
      go_ret
      exact ⟨_, rfl, HE.out⟩
end Go.Proofs.Ytkcbahfmdokalaa
