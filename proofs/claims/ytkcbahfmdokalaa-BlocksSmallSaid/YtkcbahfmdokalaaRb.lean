/-
  Walks over layer 6's reference: Members. No condition.
-/
import Derived.Test.YtkcbahfmdokalaaRa
import Derived.Test.YtkcbahfmdokalaaV
namespace Go.Proofs.Ytkcbahfmdokalaa
open Go.RowKit
attribute [local go_sem] onto_cell onto_frozen
set_option linter.unusedVariables false
def rowK (p : List Int) (b k : Nat) : List Int := ((List.range k).filter fun i => p.getD i 0 = (b : Int)).map fun (i : Nat) => (i : Int)
theorem rowK_yes {p : List Int} {b k : Nat} (h : p.getD k 0 = b) : rowK p b (k + 1) = rowK p b k ++ [(k : Int)] := by
  unfold rowK
  rw [List.range_succ, List.filter_append, List.map_append, List.filter_cons_of_pos (by rw [h]; simp)]
  rfl
theorem rowK_no {p : List Int} {b k : Nat} (h : ¬ p.getD k 0 = b) : rowK p b (k + 1) = rowK p b k := by
  unfold rowK
  rw [List.range_succ, List.filter_append, List.map_append, List.filter_cons_of_neg (by simpa using h)]
  simp
theorem rowK_len (p : List Int) (b k : Nat) : (rowK p b k).length ≤ k := by
  unfold rowK
  rw [List.length_map]
  have := List.length_filter_le (fun i => decide (p.getD i 0 = (b : Int))) (List.range k)
  rwa [List.length_range] at this
set_option maxRecDepth 100000 in
set_option maxHeartbeats 8000000 in
theorem membersR_l (a : Option Addr) (n cap : Nat) (p : List Int) (w : World) (h : Ints w a n p) (hp : Pt n p) (hn : n ≤ 1024) :
    Calls Try.prog 60 #[.slice a n cap] w fun e w' => ∃ v, e = .returned v ∧ GotRows w w' v (membersL p) := by
  obtain ⟨i0, hi, hz0, hz1, hz2⟩ := info22_parts
  obtain ⟨i1, ji, jz0, jz1, jz2⟩ := info3_parts
  have HX := hide h
  have HP := hide hp
  obtain ⟨c, hc⟩ : ∃ c, cnt p = c := ⟨_, rfl⟩
  have HC := hide hc
  have hcn : c ≤ n := by
    have := cnt_le_length p
    rw [hp.len] at this
    omega
  have HCt : Hid (∀ w', Keeps Non w w' → Calls Try.prog 59 #[.slice a n cap] w' fun e w2 => e = .returned (.int .i64 c) ∧ w' = w2) := fun w' hk => by
    have := countR_l a n cap p w' (h.non hk) hp hn
    rwa [hc] at this
  clear h hp hc
  go_enter Try.func60, Try.ntmps60
  go_wp2_with fail
  go_loopw [4, 3] (fun t v wr => ∃ (b : Nat) (S : List Value), b ≤ c ∧ t = .int .i64 b ∧ Hid (wr.ownsRow w.heap.size 22 1 v b S) ∧ Hid (Kids wr S ((membersL p).take b) v.ownBlock) ∧ Hid (Keeps Non w wr)) (fun t _ _ => c - (intOf t).toNat)
  case atStart => exact ⟨0, [], by omega, rfl, World.ownsRow_nil _ _ _ _, kids_none _ _ _, Keeps.refl _ _⟩
  case round =>
    obtain ⟨b, S, hb, rfl, HO, HKd, HK⟩ := hrel
    have HC1 := hide (HCt.out wr HK.out)
    by_cases hlt : b < c
    · have hl : (membersL p).length = c := by rw [membersL, memAt_length, HC.out]
      have hrow : (membersL p).getD b [] = rowK p b n := by
        rw [membersL_at (by rw [HC.out]; exact hlt), rowM, HP.out.len]
        rfl
      have HRow := hide hrow
      have HL := hide hl
      obtain ⟨w0, hw0⟩ : ∃ w0, wr = w0 := ⟨_, rfl⟩
      have HW0 := hide hw0
      have b0 : (0 : Int) ≤ (b : Int) := by omega
      have b1 : (b : Int) < (c : Int) := by omega
      clear hl hrow hw0
      go_wp2_with fail
      refine HC1.out.mono ?_
      rintro e _ ⟨rfl, rfl⟩
      go_wp2_with fail
      go_loopw [6, 5] (fun t v wi => ∃ (i : Nat), i ≤ n ∧ t = .int .i64 i ∧ Hid (wi.ownsRow w0.heap.size 3 1 v (rowK p b i).length ((rowK p b i).map (Value.int .i64))) ∧ Hid (Keeps Non w0 wi)) (fun t _ _ => n - (intOf t).toNat)
      case atStart => exact ⟨0, by omega, rfl, World.ownsRow_nil _ _ _ _, by show Keeps Non _ _; rw [HW0.out]; exact Keeps.refl _ _⟩
      case round =>
        rw [HW0.out] at HO HKd HK
        obtain ⟨i, hin, rfl, HOi, HKi⟩ := hrel
        by_cases hlti : i < n
        · obtain ⟨bq, oq, rfl, hbq, hcq⟩ := (HX.out.non (HK.out.then HKi.out)).at (by omega)
          have cq := hcq i hlti
          have hy := fun h => rowK_yes (p := p) (b := b) (k := i) h
          have hno := fun h => rowK_no (p := p) (b := b) (k := i) h
          have hrl := rowK_len p b i
          obtain ⟨x, hx⟩ : ∃ x, p.getD i 0 = x := ⟨_, rfl⟩
          rw [hx] at cq hy hno
          have i0' : (0 : Int) ≤ (i : Int) := by omega
          have i1' : (i : Int) < (n : Int) := by omega
          obtain ⟨q, hq⟩ : ∃ q, (rowK p b i).length = q := ⟨_, rfl⟩
          have HQ := hide hq
          rw [hq] at HOi hrl
          by_cases hxb : x = b
          · have HY := hide (hy hxb)
            subst hxb
            clear hcq hx hy hno hq
            go_wp2_with (at_builtin; refine wpList_append_own _ rfl _ _ 22 rfl w0.heap.size 3 i1 (.int .i64 0) 1 8 Try.underlying22 ji jz0 jz1 jz2 rfl (by decide) _ q _ rfl (owns_keeps HOi.out ((Keeps.refl Non _).alloc _) (fun _ _ x => x)) ⟨wr.heap.size, 0, none⟩ 1 1 [.int .i64 i] rfl ?qa1 ?qa2 ?qa3 ?qa4 ?qa5 ?qa6 ?_)
            case qa1 => rfl
            case qa2 => exact cell_one_new _ _ _
            case qa3 => first | rfl | (intro u hu; simp at hu; subst hu; rfl)
            case qa4 => unfold maxLen; omega
            case qa5 => omega
            case qa6 => (try simp); have := HKi.out.size; omega
            intro v' w5 hown hgrow hnil
            have HG := hide (And.intro hown hgrow)
            clear hown hgrow hnil
            go_wp2_with fail
            go_roundw
            case rel =>
              obtain ⟨hown, hgrow⟩ := HG.out
              refine ⟨i + 1, by omega, by go_num, ?_, keeps_grown (HKi.out.alloc _) hgrow (fun g hg => .inr (own_ge HOi.out g hg))⟩
              rw [HY.out, List.length_append, List.map_append, HQ.out]
              exact hown
            case measure => simp [intOf]; omega
          · have HN := hide (hno hxb)
            have hxb2 : (x == (b : Int)) = false := by simpa using hxb
            clear hcq hx hy hno hq
            go_wp2_with fail
            go_roundw
            case rel => exact ⟨i + 1, by omega, by go_num, by rw [HN.out, HQ.out]; exact HOi.out, HKi.out⟩
            case measure => simp [intOf]; omega
        · obtain rfl : n = i := by omega
          have y9 : ¬ (n : Int) < (n : Int) := by omega
          have hOi := HOi.out
          have hrl := rowK_len p b n
          obtain ⟨a4, c4, rfl, hI⟩ := ints_of_owns hOi (by omega)
          have hlo := owns_lt hOi
          have hfr : ∀ b' o, a4 = some ⟨b', o, none⟩ → w0.heap.size ≤ b' ∧ b' < wr.heap.size := fun b' o e => hlo b' (by rw [e]; rfl)
          obtain ⟨q, hq⟩ : ∃ q, (rowK p b n).length = q := ⟨_, rfl⟩
          have HQ := hide hq
          rw [hq] at hI ⊢
          have HI := hide hI
          have HFr := hide hfr
          clear hOi hrl hI hlo hfr hq
          go_wp2_with (at_builtin; refine wpList_append_own_at _ rfl _ _ 36 rfl w.heap.size 22 i0 (.slice none 0 0) 1 24 Try.underlying36 hi hz0 hz1 hz2 rfl (by decide) _ b S rfl (owns_keeps HO.out (HKi.out.alloc _) (fun _ _ x => x)) ⟨wr.heap.size, 0, none⟩ 1 1 [.slice a4 q c4] rfl ?qc1 ?qc2 ?qc3 ?qc4 ?qc5 ?qc6 ?_)
          case qc3 => first | rfl | (intro u hu; simp at hu; subst hu; rfl)
          case qc4 => unfold maxLen; omega
          case qc5 => omega
          case qc6 => (try simp); have := HK.out.size; have := HKi.out.size; omega
          intro v' w5 hown hgrow hnil hat
          have HO5 := hide hown
          have HKd5 := hide (kids_push (c4 := c4) (v' := v') HKd.out HO.out (by rw [List.length_take, HL.out]; omega) (HKi.out.alloc (.cells #[.slice a4 q c4] 22)) HQ.out (HI.out.non ((Keeps.refl Non _).alloc _)) (fun b' o e => by
            have := HFr.out b' o e
            rw [World.size_alloc]
            omega) hgrow (by rw [World.size_alloc]; exact hat))
          rw [← HRow.out, ← take_snocL (by rw [HL.out]; exact hlt)] at HKd5
          have HKn : Hid (Keeps Non w w5) := keeps_grown ((HK.out.then HKi.out).alloc _) hgrow (fun g hg => .inr (own_ge HO.out g hg))
          clear hown hgrow hnil hat
          go_wp2_with fail
          go_roundw
          case rel => exact ⟨b + 1, _, by omega, by go_num, HO5.out, HKd5.out, HKn.out⟩
          case measure => simp [intOf]; omega
    · obtain rfl : c = b := by omega
      have y9 : ¬ (c : Int) < (c : Int) := by omega
      have hl : (membersL p).length = c := by rw [membersL, memAt_length, HC.out]
      have hKd := HKd.out
      rw [List.take_of_length_le (by rw [hl]; exact Nat.le_refl _)] at hKd
      obtain ⟨a6, c6, rfl, hR⟩ := kids_rows hKd HO.out hl (by omega)
      have HE : Hid (GotRows w wr (.slice a6 c c6) (membersL p)) := ⟨a6, c6, by rw [hl], by rw [hl]; exact hR, HK.out⟩
      clear hKd hR hl
      go_wp2_with fail
      refine HC1.out.mono ?_
      rintro e _ ⟨rfl, rfl⟩
      go_wp2_with fail
      go_ret
      exact ⟨_, rfl, HE.out⟩
end Go.Proofs.Ytkcbahfmdokalaa
