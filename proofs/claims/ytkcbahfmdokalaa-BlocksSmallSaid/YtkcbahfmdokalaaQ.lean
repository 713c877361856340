/-
  Walks over layer 6: Quotient. No condition.
-/
import Derived.Test.YtkcbahfmdokalaaO
namespace Go.Proofs.Ytkcbahfmdokalaa
open Go.RowKit
attribute [local go_sem] onto_cell onto_frozen
set_option linter.unusedVariables false
theorem owns_base {w : World} {B C e n : Nat} {v : Value} {xs : List Value} (h : w.ownsRow B e 1 v n xs) (hc : C ≤ B) : w.ownsRow C e 1 v n xs := by
  obtain ⟨hl, h2⟩ := h
  refine ⟨hl, h2.imp id ?_⟩
  rintro ⟨g, cap, cur, rfl, hg, r⟩
  exact ⟨g, cap, cur, rfl, Nat.le_trans hc hg, r⟩
theorem grown_refl (w : World) (row : Option Nat) : w.grownBy w row := ⟨rfl, rfl, rfl, Nat.le_refl _, fun _ _ _ => rfl⟩
/-- The blocks of what comes next. -/
def rowOf (p l : List Int) : List Int := l.map fun x => p.getD x.toNat 0
def qAt (p : List Int) (next : List (List Int)) (k : Nat) : List (List Int) := ((p.zip next).drop k).foldr (fun x acc => acc.set x.1.toNat (rowOf p x.2)) (List.replicate (cnt p) [])
def quotL (p : List Int) (next : List (List Int)) : List (List Int) := qAt p next 0
theorem qAt_length (p : List Int) (next : List (List Int)) (k : Nat) : (qAt p next k).length = cnt p := by
  unfold qAt
  generalize (p.zip next).drop k = Z
  induction Z with
  | nil => simp
  | cons x r ih => simp only [List.foldr_cons, List.length_set, ih]
theorem qAt_end {p : List Int} {next : List (List Int)} {k : Nat} (h : p.length ≤ k) : qAt p next k = List.replicate (cnt p) [] := by
  unfold qAt
  rw [List.drop_of_length_le (by rw [List.length_zip]; omega)]
  rfl
theorem qAt_step {p : List Int} {next : List (List Int)} {k : Nat} (h1 : k < p.length) (h2 : k < next.length) : qAt p next k = (qAt p next (k + 1)).set (p.getD k 0).toNat (rowOf p (next.getD k [])) := by
  unfold qAt
  rw [List.drop_eq_getElem_cons (by rw [List.length_zip]; omega), List.getElem_zip, getD_num h1, getD_numL h2]
  rfl
theorem rowOf_take {p l : List Int} {i : Nat} (h : i < l.length) : rowOf p (l.take (i + 1)) = rowOf p (l.take i) ++ [p.getD (l.getD i 0).toNat 0] := by
  unfold rowOf
  rw [List.take_succ_eq_append_getElem h, List.map_append, getD_num h]
  rfl
theorem rowOf_length (p l : List Int) : (rowOf p l).length = l.length := by simp [rowOf]
set_option maxRecDepth 100000 in
set_option maxHeartbeats 8000000 in
theorem quotient_yes (a b : Option Addr) (n cap m cap2 : Nat) (p : List Int) (next : List (List Int)) (w : World) (h : Ints w a n p) (h2 : Rows w b m next) (hg : Good p) (he : wrongE p next = 0) (hst : refineL p next = p) :
    Calls Try.prog 28 #[.slice a n cap, .slice b m cap2] w fun e w' => ∃ v, e = .returned (.tuple #[v, .int .i64 0]) ∧ NewRows w w' v (quotL p next) := by
  have HS := stable_yes a b n cap m cap2 p next w h h2 hg he
  rw [hst, decide_eq_true rfl] at HS
  have HS2 := hide HS
  obtain ⟨hr, hno⟩ := wrongE_ok he
  obtain rfl := h.len
  have hl2 := h2.len
  obtain ⟨hn, hp⟩ := rightB_iff.1 hr
  obtain rfl : p.length = m := by rw [← hl2]; exact hno.1.symm
  have HC : Hid (∀ w', Keeps Non w w' → Calls Try.prog 55 #[.slice a p.length cap] w' fun e w2 => e = .returned (.int .i64 (cnt p)) ∧ Keeps Non w' w2) := fun w' hk => count_l a p.length cap p w' (h.non hk) hp hn
  obtain ⟨i0, hi, hz0, hz1, hz2⟩ := info3_parts
  have HX := hide h
  have HY := hide h2
  have HP := hide hp
  have HNo := hide hno
  obtain ⟨n, hn2⟩ : ∃ n, p.length = n := ⟨_, rfl⟩
  have HN := hide hn2
  have hcn := cnt_le_length p
  obtain ⟨c, hc⟩ : ∃ c, cnt p = c := ⟨_, rfl⟩
  have HCn := hide hc
  rw [hn2] at hn HS2 HC hcn HX HY HNo ⊢
  rw [hc] at HC hcn
  clear h hg hr hp hn2 hc HS h2 he hst hno hl2
  go_enter Try.func28, Try.ntmps28
  go_wp2_with fail
  refine HS2.out.mono ?_
  rintro e w2 ⟨rfl, hk⟩
  have HK := hide hk
  have HC2 := hide (HC.out w2 hk)
  clear hk HC HS2
  go_wp2_with fail
  refine HC2.out.mono ?_
  rintro e w3 ⟨rfl, hk3⟩
  have HK3 := hide (HK.out.then hk3)
  have hms := make36 w3 c (by omega)
  obtain ⟨B, hB⟩ : ∃ B, w3.heap.size = B := ⟨_, rfl⟩
  have HBs : Hid (w.heap.size ≤ B) := by
    have := HK3.out.size
    show _ ≤ _
    omega
  have HA0 := hide (rowsAt_made w3 (n := c) hB)
  have HK4 := hide (HK3.out.alloc (.cells (List.replicate c (Value.slice none 0 0)).toArray 22))
  clear hk3 HC2
  have n1 : IntKind.i64.wrap ((n : Int) - 1) = (n : Int) - 1 := IntWalk.i64_in _ (by omega)
  go_wp2_with fail
  obtain ⟨W, hW⟩ : ∃ W, w3.alloc (.cells (List.replicate c (Value.slice none 0 0)).toArray 22) = W := ⟨_, rfl⟩
  have hW2 := hW
  simp only [List.toArray_replicate] at hW2
  first | rw [hW] | rw [hW2]
  rw [hW] at HA0 HK4 hms
  try rw [hB]
  clear hW hW2 hB hms n1
  go_loopw [9] (fun i wr => ∃ (k : Nat) (S : List Value), k ≤ n ∧ i = .int .i64 ((k : Int) - 1) ∧ Hid (RowsAt wr B S (qAt p next k)) ∧ Hid (Keeps Non w wr)) (fun i _ => (intOf i + 1).toNat)
  case atStart => exact ⟨n, _, by omega, rfl, by rw [qAt_end (by rw [HN.out]; omega), HCn.out]; exact HA0.out, HK4.out⟩
  case round =>
    clear HA0 HK4 HK3 HK
    obtain ⟨k, S, hk, rfl, HA, HKr⟩ := hrel
    cases k with
    | succ j =>
      have ej : (((j + 1 : Nat) : Int) - 1) = (j : Int) := by omega
      rw [ej]
      have hjn : j < n := by omega
      obtain ⟨b1, o1, rfl, hb1, hc1⟩ := HX.out.at (by omega)
      obtain ⟨b2, o2, rfl, hb2, hc2⟩ := HY.out.at (by omega)
      obtain ⟨al, cl, c2w, hI⟩ := hc2 j hjn
      have c1w := hc1 j hjn
      have hnl : next.length = n := HNo.out.1
      have hpl : p.length = n := HN.out
      have hlm := HNo.out.2 (next.getD j []) (getD_mem (by omega))
      have hpb := numb_bound p (p.getD j 0) (by rw [HP.out]; exact getD_mem (by omega))
      have hqs := qAt_step (p := p) (next := next) (k := j) (by omega) (by omega)
      obtain ⟨l, hl⟩ : ∃ l, next.getD j [] = l := ⟨_, rfl⟩
      obtain ⟨x, hx⟩ : ∃ x, p.getD j 0 = x := ⟨_, rfl⟩
      rw [hl] at c2w hI hlm hqs
      rw [hx] at c1w hpb hqs
      obtain ⟨z, rfl⟩ : ∃ z : Nat, x = z := ⟨x.toNat, by omega⟩
      rw [Int.toNat_natCast] at hqs
      have hzc : z < c := by rw [← HCn.out]; show _ < (firsts [] p).length; omega
      have HQs := hide hqs
      have HI := hide hI
      have HLm := hide hlm.2
      have hl64 := hlm.1
      obtain ⟨q, hq⟩ : ∃ q, l.length = q := ⟨_, rfl⟩
      have HQ := hide hq
      rw [hq] at c2w HI hl64
      have HC1 := hide c1w
      have c2 := (HKr.out.cell (p := ⟨b2, o2 + j, none⟩) hb2 (fun x => x)).trans c2w
      have hb2' := Nat.lt_of_lt_of_le hb2 HKr.out.size
      have hb1' := Nat.lt_of_lt_of_le hb1 HKr.out.size
      have HB1 := hide hb1
      have j0 : (0 : Int) ≤ (j : Int) := by omega
      have j1 : (j : Int) < (n : Int) := by omega
      have HPp : Hid (∀ i, i < n → w.cell? ⟨b1, o1 + i, none⟩ = some (.int .i64 (p.getD i 0))) := hc1
      obtain ⟨w0, hw0⟩ : ∃ w0, wr = w0 := ⟨_, rfl⟩
      have HW0 := hide hw0
      clear hw0
      clear hl hx hlm hpb hqs hI hq hnl hpl hc1 hc2 c1w c2w hb1 hb2
      go_wp2_with fail
      go_loopw [39, 10] (fun t v wi => ∃ (i : Nat), i ≤ q ∧ t = .int .i64 i ∧ Hid (wi.ownsRow w0.heap.size 3 1 v i ((rowOf p (l.take i)).map (Value.int .i64))) ∧ Hid (Keeps Non w0 wi)) (fun t _ _ => q - (intOf t).toNat)
      case atStart => exact ⟨0, by omega, rfl, World.ownsRow_nil _ _ _ _, by show Keeps Non _ _; rw [← HW0.out]; exact Keeps.refl _ _⟩
      case round =>
        clear c2 hb2' hb1'
        obtain ⟨i, hi2, rfl, HO, HKi⟩ := hrel
        rw [HW0.out] at HKr HA
        by_cases hlt : i < q
        · obtain ⟨b3, o3, rfl, hb3, hc3⟩ := HI.out.at (by omega)
          have c3w := hc3 i hlt
          have hrt := rowOf_take (p := p) (l := l) (i := i) (by rw [HQ.out]; exact hlt)
          have hyb := HLm.out (l.getD i 0) (getD_mem (by rw [HQ.out]; exact hlt))
          obtain ⟨y, hy⟩ : ∃ y, l.getD i 0 = y := ⟨_, rfl⟩
          rw [hy] at c3w hrt hyb
          obtain ⟨u, rfl⟩ : ∃ u : Nat, y = u := ⟨y.toNat, by omega⟩
          rw [Int.toNat_natCast] at hrt
          have c4w := HPp.out u (by omega)
          obtain ⟨v0, hv0⟩ : ∃ v0, p.getD u 0 = v0 := ⟨_, rfl⟩
          rw [hv0] at c4w hrt
          have hKK := HKr.out.then HKi.out
          have c3 := (hKK.cell (p := ⟨b3, o3 + i, none⟩) hb3 (fun x => x)).trans c3w
          have c4 := (hKK.cell (p := ⟨b1, o1 + u, none⟩) HB1.out (fun x => x)).trans c4w
          have l3 := Nat.lt_of_lt_of_le hb3 hKK.size
          have l4 := Nat.lt_of_lt_of_le HB1.out hKK.size
          have HRt := hide hrt
          have i0' : (0 : Int) ≤ (i : Int) := by omega
          have i1' : (i : Int) < (q : Int) := by omega
          have u0 : (0 : Int) ≤ (u : Int) := by omega
          have u1 : (u : Int) < (n : Int) := by omega
          clear hc3 hrt hyb hy hv0 hKK c3w c4w hb3
          go_wp2_with (at_builtin; refine wpList_append_own _ rfl _ _ 22 rfl w0.heap.size 3 i0 (.int .i64 0) 1 8 Try.underlying22 hi hz0 hz1 hz2 rfl (by decide) _ i _ rfl (owns_keeps HO.out ((Keeps.refl Non _).alloc _) (fun _ _ x => x)) ⟨wr.heap.size, 0, none⟩ 1 1 [.int .i64 v0] rfl ?qc1 ?qc2 ?qc3 ?qc4 ?qc5 ?qc6 ?_)
          case qc1 => rfl
          case qc2 => exact cell_one_new _ _ _
          case qc3 => intro u hu; simp at hu; subst hu; rfl
          case qc4 => unfold maxLen; omega
          case qc5 => omega
          case qc6 => simp; have := HKi.out.size; omega
          intro v' w5 hown hgrow hnil
          have HG := hide (And.intro hown hgrow)
          clear hown hgrow hnil
          go_wp2_with fail
          go_roundw
          case rel =>
            obtain ⟨hown, hgrow⟩ := HG.out
            refine ⟨i + 1, by omega, by go_num, ?_, keeps_grown (HKi.out.alloc _) hgrow (fun g hg => .inr (own_ge HO.out g hg))⟩
            rw [HRt.out, List.map_append]
            exact hown
          case measure => simp [intOf]; omega
        · obtain rfl : q = i := by omega
          have y9 : ¬ (q : Int) < (q : Int) := by omega
          have hO := HO.out
          rw [List.take_of_length_le (by rw [HQ.out]; exact Nat.le_refl _)] at hO
          obtain ⟨a5, c5, rfl⟩ := owns_slice hO
          have hKK := HKr.out.then HKi.out
          have c4 := (hKK.cell (p := ⟨b1, o1 + j, none⟩) HB1.out (fun x => x)).trans HC1.out
          have l4 := Nat.lt_of_lt_of_le HB1.out hKK.size
          have hlen : (qAt p next (j + 1)).length = c := by rw [qAt_length, HCn.out]
          obtain ⟨vz, hvz, hoz⟩ := HA.out.row z (by omega)
          have cB : wr.cell? ⟨B, z, none⟩ = some vz := by rw [(HA.out.keeps HKi.out).blk.cell]; exact hvz
          have fB := (HA.out.keeps HKi.out).blk.free z none
          have lB := (HA.out.keeps HKi.out).blk.lt
          have hB0 : B < w0.heap.size := HA.out.blk.lt
          have HAn : Hid (RowsAt (wr.setCell ⟨B, z, none⟩ (.slice a5 q c5)) B (S.set z (.slice a5 q c5)) (qAt p next j)) := by
            show RowsAt _ _ _ _
            rw [HQs.out]
            refine HA.out.put (by rw [hlen]; exact hzc) hvz HKi.out ?_ (grown_refl _ _) (.inr fun g hg => own_ge hO g hg)
            rw [rowOf_length, HQ.out]
            exact owns_base hO (by omega)
          have HKn : Hid (Keeps Non w (wr.setCell ⟨B, z, none⟩ (.slice a5 q c5))) := hKK.set (.inr HBs.out) _
          have z0 : (0 : Int) ≤ (z : Int) := by omega
          have z1 : (z : Int) < (c : Int) := by omega
          have j2 : IntKind.i64.wrap ((j : Int) - 1) = (j : Int) - 1 := IntWalk.i64_in _ (by omega)
          clear hO hKK hlen hvz hoz hB0
          go_wp2_with fail
          go_roundw
          case rel => exact ⟨j, _, by omega, rfl, HAn.out, HKn.out⟩
          case measure => simp [intOf]
    | zero =>
      have ej : (((0 : Nat) : Int) - 1) = -1 := by omega
      rw [ej]
      have HE : Hid (NewRows w wr (.slice (some ⟨B, 0, none⟩) c c) (quotL p next)) := by
        refine ⟨B, S, by rw [quotL, qAt_length, HCn.out], HBs.out, HA.out, HKr.out⟩
      go_wp2_with fail
      go_ret2
      exact ⟨_, rfl, HE.out⟩
end Go.Proofs.Ytkcbahfmdokalaa
