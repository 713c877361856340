/-
  Walks over layer 6: Join. No condition.
-/
import Derived.Test.YtkcbahfmdokalaaM
namespace Go.Proofs.Ytkcbahfmdokalaa
open Go.RowKit Go.Maps
attribute [local go_sem] onto_cell onto_frozen
set_option linter.unusedVariables false
/-- What the map says of the blocks that came. -/
def SaysV {H : Type} (D : DataW H) (met : List (Int × Int)) : Prop := IsMap D ∧ (∀ x : Int, has D (.int .i64 x) = (met.lookup x).isSome) ∧ ∀ x f, met.lookup x = some f → ∀ z, D.atKey (.int .i64 x) z = .lit (.int .i64 f)
theorem saysV_nil {H : Type} : SaysV (H := H) (.map []) [] := ⟨isMap_empty, fun l => by simp [has], fun x f h => by simp at h⟩
theorem saysV_put {H : Type} {D : DataW H} {met : List (Int × Int)} (h : SaysV D met) (b f : Int) : SaysV (D.put (.int .i64 b) (.lit (.int .i64 f))) ((b, f) :: met) := by
  obtain ⟨h1, h2, h3⟩ := h
  have hk : ∀ x : Int, WideAt.IsKeyLit (Lit.int .i64 x) := fun x => ⟨⟩
  refine ⟨h1.put _ _, fun x => ?_, fun x g hx z => ?_⟩
  · rw [lookup_cons]
    by_cases e : x = b
    · subst e
      rw [has_put_same h1 (hk x), if_pos rfl]
      rfl
    · rw [has_put_other (fun h => e (lit_inj _ _ h)), h2 x, if_neg e]
  · rw [lookup_cons] at hx
    by_cases e : x = b
    · subst e
      rw [if_pos rfl] at hx
      cases hx
      exact atKey_put_same h1 (hk x) _ _
    · rw [if_neg e] at hx
      rw [atKey_put_other (fun h => e (lit_inj _ _ h)), h3 x g hx]
def upF (k j : Nat) : Int := if j < k then j else 0
theorem upF_step (m k : Nat) : rowF m (fun j => if j = k then (k : Int) else upF k j) = rowF m (upF (k + 1)) := by
  refine rowF_congr fun j _ => ?_
  unfold upF
  by_cases h1 : j = k
  · rw [if_pos h1, if_pos (by omega), h1]
  · rw [if_neg h1]
    by_cases h2 : j < k
    · rw [if_pos h2, if_pos (show j < k + 1 by omega)]
    · rw [if_neg h2, if_neg (show ¬ j < k + 1 by omega)]
theorem upF_end (n : Nat) : rowF n (upF n) = (upTo n).map (Value.int .i64) := by
  unfold rowF upTo
  rw [List.map_map]
  refine List.map_congr_left fun j hj => ?_
  have := List.mem_range.1 hj
  show Value.int .i64 (upF n j) = _
  unfold upF
  rw [if_pos this]
  rfl
def keyF (p L : List Int) (k j : Nat) : Int := if j < k then L.getD (p.getD j 0).toNat 0 else 0
theorem keyF_step (p L : List Int) (m k : Nat) : rowF m (fun j => if j = k then L.getD (p.getD k 0).toNat 0 else keyF p L k j) = rowF m (keyF p L (k + 1)) := by
  refine rowF_congr fun j _ => ?_
  unfold keyF
  by_cases h1 : j = k
  · rw [if_pos h1, if_pos (by omega), h1]
  · rw [if_neg h1]
    by_cases h2 : j < k
    · rw [if_pos h2, if_pos (show j < k + 1 by omega)]
    · rw [if_neg h2, if_neg (show ¬ j < k + 1 by omega)]
theorem keyF_end (p L : List Int) : rowF p.length (keyF p L p.length) = (p.map fun b => L.getD b.toNat 0).map (Value.int .i64) := by
  apply List.ext_getElem?
  intro j
  by_cases h : j < p.length
  · rw [rowF_at _ h, List.getElem?_map, List.getElem?_map, List.getElem?_eq_getElem h]
    unfold keyF
    rw [if_pos h, getD_num h]
    rfl
  · rw [List.getElem?_eq_none (by rw [rowF_length]; omega), List.getElem?_eq_none (by simp; omega)]
theorem joinKeys_length (p q : List Int) : (joinKeys p q).length = p.length := by simp [joinKeys]
theorem joinL_length (p q : List Int) : (joinL p q).length = p.length := by rw [joinL, numb_length, joinKeys_length]
set_option maxRecDepth 100000 in
set_option maxHeartbeats 8000000 in
theorem join_yes (a b : Option Addr) (n cap m cap2 : Nat) (p q : List Int) (w : World) (h : Ints w a n p) (h2 : Ints w b m q) (hg : Good p) (hg2 : Good q) (he : bothE p q = 0) :
    Calls Try.prog 31 #[.slice a n cap, .slice b m cap2] w fun e w' => ∃ v, e = .returned (.tuple #[v, .int .i64 0]) ∧ NewInts w w' v (joinL p q) := by
  have HB := both_l a b n cap m cap2 p q w h h2 hg hg2
  rw [he] at HB
  have HB2 := hide HB
  have h3 := bothE_ok he
  obtain rfl : n = m := by have := h.len; have := h2.len; omega
  have hpr := rightB_iff.1 h3.1
  have hn : n ≤ 1024 := by have := h.len; omega
  have HX := hide h
  have HY := hide h2
  have HG := hide hg
  have HG2 := hide hg2
  have HPb : Hid (∀ i, i < n → 0 ≤ p.getD i 0 ∧ p.getD i 0 < n) := by
    have := isP_bound hpr.2
    rw [h.len] at this
    exact this
  have hmf : ∀ (fn : Fn) (first cap : Array Value) (w : World), (Instr.makeFunc fn first cap).run Try.prog w = .ok (.func fn first cap) w := fun _ _ _ _ => rfl
  clear HB h h2 hg hg2 h3 he hpr
  go_enter Try.func31, Try.ntmps31
  go_wp2_with fail
  refine HB2.out.mono ?_
  rintro e w2 ⟨rfl, hk⟩
  have HK := hide hk
  have hms := make22 w2 n (by omega)
  clear hk
  obtain ⟨T, hT⟩ : ∃ B, w2.heap.size = B := ⟨_, rfl⟩
  have HTs := hide hT
  have HT0 : Hid (Blk ((w2.alloc (.cells (Array.replicate n (.int .i64 0)) 3)).alloc (.cells #[.slice (some ⟨T, 0, none⟩) n n] 22)) T (rowF n (upF 0)) 3) := by
    have e : rowF n (upF 0) = List.replicate n (.int .i64 0) := by
      rw [← rowF_zero]
      exact rowF_congr fun j _ => by simp [upF]
    rw [e, ← List.toArray_replicate]
    exact (Blk.newAt w2 (List.replicate n (.int .i64 0)) 3 hT.symm).alloc _
  have HX0 : Hid (Blk ((w2.alloc (.cells (Array.replicate n (.int .i64 0)) 3)).alloc (.cells #[.slice (some ⟨T, 0, none⟩) n n] 22)) (T + 1) [.slice (some ⟨T, 0, none⟩) n n] 22) := Blk.newAt (w2.alloc (.cells (Array.replicate n (.int .i64 0)) 3)) [.slice (some ⟨T, 0, none⟩) n n] 22 (by simp [hT])
  have HK0 := hide ((HK.out.alloc (.cells (Array.replicate n (.int .i64 0)) 3)).alloc (.cells #[.slice (some ⟨T, 0, none⟩) n n] 22))
  have HTk : Hid (w.heap.size ≤ T) := by
    have := HK.out.size
    show _ ≤ _
    omega
  clear hT
  go_wp2_with fail
  rw [HTs.out]
  obtain ⟨W, hW⟩ : ∃ W, (w2.alloc (.cells (Array.replicate n (.int .i64 0)) 3)).alloc (.cells #[.slice (some ⟨T, 0, none⟩) n n] 22) = W := ⟨_, rfl⟩
  rw [hW] at HT0 HX0 HK0
  try rw [hW]
  clear hW hms
  have cX : W.cell? ⟨T + 1, 0, none⟩ = some (.slice (some ⟨T, 0, none⟩) n n) := HX0.out.cell 0
  have lX := HX0.out.lt
  go_wp2_with fail
  go_loopw [29] (fun i wr => ∃ (k : Nat), k ≤ n ∧ i = .int .i64 k ∧ Hid (Blk wr T (rowF n (upF k)) 3) ∧ Hid (Blk wr (T + 1) [.slice (some ⟨T, 0, none⟩) n n] 22) ∧ Hid (Keeps Non w wr)) (fun i _ => n - (intOf i).toNat)
  case atStart => exact ⟨0, by omega, rfl, HT0.out, HX0.out, HK0.out⟩
  case round =>
    clear HT0 HX0 HK0 cX lX
    obtain ⟨k, hk, rfl, HT, HXb, HKr⟩ := hrel
    have cX : wr.cell? ⟨T + 1, 0, none⟩ = some (.slice (some ⟨T, 0, none⟩) n n) := HXb.out.cell 0
    have lX := HXb.out.lt
    by_cases hlt : k < n
    · have cT : wr.cell? ⟨T, k, none⟩ = some (.int .i64 (upF k k)) := by rw [HT.out.cell]; exact rowF_at _ hlt
      have fT := HT.out.free k none
      have lT := HT.out.lt
      have k0 : (0 : Int) ≤ (k : Int) := by omega
      have k1 : (k : Int) < (n : Int) := by omega
      go_wp2_with fail
      go_roundw
      case rel => exact ⟨k + 1, by omega, by go_num, by
        have h1 := HT.out.store k (.int .i64 (k : Int))
        rw [rowF_set, upF_step] at h1
        exact h1, HXb.out.other (by show T + 1 ≠ T; omega) _, HKr.out.set (b := T) (.inr HTk.out) _⟩
      case measure => simp [intOf]; omega
    · obtain rfl : n = k := by omega
      have y9 : ¬ (n : Int) < (n : Int) := by omega
      have HTn : Hid (Blk wr T ((upTo n).map (Value.int .i64)) 3) := by
        show Blk _ _ _ _
        rw [← upF_end]
        exact HT.out
      have hmm := @run_makeMap Try.prog
      clear HT cX lX
      obtain ⟨M, hM⟩ : ∃ M, wr.heap.size = M := ⟨_, rfl⟩
      have HMs := hide hM
      have HM0 : Hid ((wr.alloc (.map #[] 0)).ownsMap Try.prog 3 (plainElem (H := Unit) Try.prog 3) M 0 (.map [])) := by
        rw [← hM]
        exact World.ownsMap_made _ _ _ _
      have HT1 := hide (HTn.out.alloc (.map #[] 0))
      have HX1 := hide (HXb.out.alloc (.map #[] 0))
      have HK1 := hide (HKr.out.alloc (.map #[] 0))
      have HTM : Hid (T + 1 < M) := by rw [← hM]; exact HXb.out.lt
      clear hM
      go_wp2_with fail
      rw [HMs.out]
      obtain ⟨W2, hW2⟩ : ∃ W, wr.alloc (.map #[] 0) = W := ⟨_, rfl⟩
      rw [hW2] at HM0 HT1 HX1 HK1
      try rw [hW2]
      clear hW2 hmm HTn HXb HKr
      have HJ0 : Hid (joinLab p q = (joinGo (upTo n, []) ((q.zip p).drop 0)).1) := by
        show _ = _
        rw [joinLab, HX.out.len, List.drop_zero]
      have HF0 := hide (forest_start n)
      go_wp2_with fail
      go_loopw [41] (fun i wr => ∃ (k : Nat) (to L : List Int) (met : List (Int × Int)) (d : Nat → Nat) (D : DataW Unit), k ≤ n ∧ i = .int .i64 k ∧ Hid (Forest n to L d) ∧ Hid (joinLab p q = (joinGo (L, met) ((q.zip p).drop k)).1) ∧ Hid (SaysV D met) ∧ Hid (∀ b f, met.lookup b = some f → 0 ≤ f ∧ f < n) ∧ Hid (wr.ownsMap Try.prog 3 (plainElem Try.prog 3) M k D) ∧ Hid (Blk wr T (to.map (Value.int .i64)) 3) ∧ Hid (Blk wr (T + 1) [.slice (some ⟨T, 0, none⟩) n n] 22) ∧ Hid (Keeps Non w wr)) (fun i _ => n - (intOf i).toNat)
      case atStart => exact ⟨0, upTo n, upTo n, [], _, .map [], by omega, rfl, HF0.out, HJ0.out, saysV_nil, (fun b f h => by simp at h), HM0.out, HT1.out, HX1.out, HK1.out⟩
      case round =>
        clear HM0 HT1 HX1 HK1 HF0 HJ0
        obtain ⟨k, to, L, met, d, D, hk, rfl, HF, HJ, HS, HMb, HM, HT, HXb, HKr⟩ := hrel
        have cX : wr.cell? ⟨T + 1, 0, none⟩ = some (.slice (some ⟨T, 0, none⟩) n n) := HXb.out.cell 0
        have lX := HXb.out.lt
        by_cases hlt : k < n
        · obtain ⟨b1, o1, rfl, hb1, hc1⟩ := (HX.out.non HKr.out).at (by omega)
          obtain ⟨b2, o2, rfl, hb2, hc2⟩ := (HY.out.non HKr.out).at (by omega)
          have c1 := hc1 k hlt
          have c2 := hc2 k hlt
          have hpb := HPb.out k hlt
          have hwq := good_at HG2.out k
          have hwp := good_at HG.out k
          have hzl : k < (q.zip p).length := by simp [HX.out.len, HY.out.len]; exact hlt
          have hdr : (q.zip p).drop k = (q.getD k 0, p.getD k 0) :: (q.zip p).drop (k + 1) := by
            rw [List.drop_eq_getElem_cons hzl, List.getElem_zip, getD_num (by rw [HY.out.len]; exact hlt), getD_num (by rw [HX.out.len]; exact hlt)]
          obtain ⟨x, hx⟩ : ∃ x, p.getD k 0 = x := ⟨_, rfl⟩
          obtain ⟨y, hy⟩ : ∃ x, q.getD k 0 = x := ⟨_, rfl⟩
          rw [hx] at c1 hpb hwp hdr
          rw [hy] at c2 hwq hdr
          have hJ := HJ.out
          rw [hdr] at hJ
          have HJ1 : Hid (joinLab p q = (joinGo (joinStep (L, met) y x) ((q.zip p).drop (k + 1))).1) := hJ
          have hkey : keyOf Try.prog 3 (.int .i64 y) = some (.int .i64 y) := keyOf_int_mk Try.underlying3 hwq
          obtain ⟨z, rfl⟩ : ∃ z : Nat, x = z := ⟨x.toNat, by omega⟩
          have hzn : z < n := by omega
          have k0 : (0 : Int) ≤ (k : Int) := by omega
          have k1 : (k : Int) < (n : Int) := by omega
          clear hc1 hc2 hx hy hzl hdr hJ hpb
          cases hlk : met.lookup y with
          | none =>
            have hhas : has D (.int .i64 y) = false := by
              rw [HS.out.2.1 y, hlk]
              rfl
            have HSt : Hid (joinStep (L, met) y z = (L, (y, (z : Int)) :: met)) := by
              show joinStep _ _ _ = _
              unfold joinStep
              simp only [hlk]
            have HMb2 : Hid (∀ b f, ((y, (z : Int)) :: met).lookup b = some f → 0 ≤ f ∧ f < n) := fun b f h => by
              rw [lookup_cons] at h
              split at h
              · cases h; omega
              · exact HMb.out b f h
            have HS2 := hide (saysV_put HS.out y (z : Int))
            clear hlk
            go_wp2_with (first | (at_lookup; refine wpList_lookup_own_ok_int _ rfl _ _ 81 rfl 3 3 .i64 law3 Try.underlying81 Try.underlying3 (zero3 _) M k D rfl HM.out _ _ rfl hkey ?_; intro c hat hwc; rw [hhas]) | (at_mapUpdate; refine wpList_mapUpdate_own _ rfl _ _ _ 81 rfl 3 3 law3 Try.underlying81 _ M k D rfl HM.out (by unfold maxLen; omega) _ _ _ rfl rfl hkey _ [] (plainElem_int Try.underlying3 hwp) ?_; intro w1 hown1 hgrow1))
            have HT1 := hide (HT.out.of_eq (hgrow1.block T HT.out.lt (fun e => by simp at e; have := HTM.out; omega)))
            have HX1 := hide (HXb.out.of_eq (hgrow1.block (T + 1) HXb.out.lt (fun e => by simp at e; have := HTM.out; omega)))
            have HK1 := hide (keeps_grown HKr.out hgrow1 (fun j hj => .inr (by cases hj; have := HTM.out; have := HTk.out; omega)))
            have HO1 := hide hown1
            rw [HSt.out] at HJ1
            clear hown1 hgrow1
            go_wp2_with fail
            go_roundw
            case rel => exact ⟨k + 1, to, L, (y, (z : Int)) :: met, d, _, by omega, by go_num, HF.out, HJ1.out, HS2.out, HMb2.out, HO1.out, HT1.out, HX1.out, HK1.out⟩
            case measure => simp [intOf]; omega
          | some f =>
            have hhas : has D (.int .i64 y) = true := by
              rw [HS.out.2.1 y, hlk]
              rfl
            have hfb := HMb.out y f hlk
            obtain ⟨g, rfl⟩ : ∃ g : Nat, f = g := ⟨f.toNat, by omega⟩
            have hgn : g < n := by omega
            have HSt : Hid (joinStep (L, met) y z = (setAll L (L.getD z 0) (L.getD g 0), met)) := by
              show joinStep _ _ _ = _
              unfold joinStep
              simp only [hlk, Int.toNat_natCast]
            have HAt := hide (HS.out.2.2 y (g : Int) hlk (.lit (.int .i64 0)))
            obtain ⟨d', hF'⟩ := forest_tie HF.out hzn hgn
            have hlb := HF.out.lbd z hzn
            have HRt : Hid (∀ (u : World) (c : Nat), u.heap = wr.heap → c < n → Calls Try.prog 58 #[.int .i64 c, .pointer (some ⟨T + 1, 0, none⟩)] u fun e w' => e = .returned (.int .i64 (L.getD c 0)) ∧ u = w') := fun u c hu hc => root_l n to L d (T + 1) T c u (by show _ = _; rw [hu]; exact HXb.out) (by show _ = _; rw [hu]; exact HT.out) HF.out hc
            obtain ⟨r, hr⟩ : ∃ r, L.getD z 0 = r := ⟨_, rfl⟩
            obtain ⟨s, hs⟩ : ∃ s, L.getD g 0 = s := ⟨_, rfl⟩
            rw [hr, hs] at hF' HSt
            rw [hr] at hlb
            obtain ⟨r, rfl⟩ : ∃ r' : Nat, r = r' := ⟨r.toNat, by omega⟩
            rw [Int.toNat_natCast] at hF'
            have hrn : r < n := by omega
            have HRz : Hid (∀ u : World, u.heap = wr.heap → Calls Try.prog 58 #[.int .i64 z, .pointer (some ⟨T + 1, 0, none⟩)] u fun e w' => e = .returned (.int .i64 r) ∧ u = w') := fun u hu => by
              have := HRt.out u z hu hzn
              rwa [hr] at this
            have HRg : Hid (∀ u : World, u.heap = wr.heap → Calls Try.prog 58 #[.int .i64 g, .pointer (some ⟨T + 1, 0, none⟩)] u fun e w' => e = .returned (.int .i64 s) ∧ u = w') := fun u hu => by
              have := HRt.out u g hu hgn
              rwa [hs] at this
            have HFn := hide hF'
            have cT : wr.cell? ⟨T, r, none⟩ = some (.int .i64 (to.getD r 0)) := by rw [HT.out.cell]; exact int_row (by rw [HF.out.len]; exact hrn)
            have fT := HT.out.free r none
            have lT := HT.out.lt
            have r0 : (0 : Int) ≤ (r : Int) := by omega
            have r1 : (r : Int) < (n : Int) := by omega
            rw [HSt.out] at HJ1
            clear hlk hfb hF' hlb hr hs HRt
            go_wp2_with (at_lookup; refine wpList_lookup_own_ok_int _ rfl _ _ 81 rfl 3 3 .i64 law3 Try.underlying81 Try.underlying3 (zero3 _) M k D rfl HM.out _ _ rfl hkey ?_; intro c hat hwc; rw [hhas])
            have hce : c = (g : Int) := by
              rw [HAt.out] at hat
              simpa using hat.symm
            clear hat hwc
            subst hce
            go_wp2_with fail
            have HR1 := hide (HRz.out wr.drew rfl)
            have HR2 := hide (HRg.out wr.drew rfl)
            go_region_with (first | ((with_reducible refine HR1.out.mono ?_); rintro e w2 ⟨rfl, rfl⟩) | ((with_reducible refine HR2.out.mono ?_); rintro e w2 ⟨rfl, rfl⟩))
            all_goals
              go_wp2_with fail
              go_roundw
              case rel => exact ⟨k + 1, _, _, met, d', D, by omega, by go_num, HFn.out, HJ1.out, HS.out, HMb.out, map_other (g := T) (i := r) (HM.out.mono (Nat.le_succ k)) (by have := HTM.out; omega) (.int .i64 s), by
                have h1 := HT.out.drew.store r (.int .i64 s)
                rw [← List.map_set] at h1
                exact h1, HXb.out.drew.other (by show T + 1 ≠ T; omega) _, HKr.out.drew.set (b := T) (.inr HTk.out) _⟩
              case measure => simp [intOf]; omega
        · obtain rfl : n = k := by omega
          have y8 : ¬ (n : Int) < (n : Int) := by omega
          have hzd : (q.zip p).drop n = [] := List.drop_of_length_le (by rw [List.length_zip, HX.out.len, HY.out.len]; omega)
          have HJE : Hid (joinLab p q = L) := by
            have := HJ.out
            rw [hzd] at this
            exact this
          have hms := make22 wr n (by omega)
          obtain ⟨O, hO⟩ : ∃ O, wr.heap.size = O := ⟨_, rfl⟩
          have HOs := hide hO
          have HO0 : Hid (Blk (wr.alloc (.cells (Array.replicate n (.int .i64 0)) 3)) O (rowF n (keyF p L 0)) 3) := by
            have e : rowF n (keyF p L 0) = List.replicate n (.int .i64 0) := by
              rw [← rowF_zero]
              exact rowF_congr fun j _ => by simp [keyF]
            rw [e, ← List.toArray_replicate]
            exact Blk.newAt wr (List.replicate n (.int .i64 0)) 3 hO.symm
          have HT1 := hide (HT.out.alloc (.cells (Array.replicate n (.int .i64 0)) 3))
          have HX1 := hide (HXb.out.alloc (.cells (Array.replicate n (.int .i64 0)) 3))
          have HK1 := hide (HKr.out.alloc (.cells (Array.replicate n (.int .i64 0)) 3))
          have HTO : Hid (T + 1 < O) := by rw [← hO]; exact lX
          clear hzd hO HJ HS HMb HM cX lX
          go_wp2_with fail
          rw [HOs.out]
          obtain ⟨W3, hW3⟩ : ∃ W, wr.alloc (.cells (Array.replicate n (.int .i64 0)) 3) = W := ⟨_, rfl⟩
          rw [hW3] at HO0 HT1 HX1 HK1 hms
          try rw [hW3]
          clear hW3 hms HT HXb HKr
          go_wp2_with fail
          go_loopw [77] (fun i wr => ∃ (k : Nat), k ≤ n ∧ i = .int .i64 k ∧ Hid (Blk wr O (rowF n (keyF p L k)) 3) ∧ Hid (Blk wr T (to.map (Value.int .i64)) 3) ∧ Hid (Blk wr (T + 1) [.slice (some ⟨T, 0, none⟩) n n] 22) ∧ Hid (Keeps Non w wr)) (fun i _ => n - (intOf i).toNat)
          case atStart => exact ⟨0, by omega, rfl, HO0.out, HT1.out, HX1.out, HK1.out⟩
          case round =>
            clear HO0 HT1 HX1 HK1
            obtain ⟨k, hk, rfl, HO, HT, HXb, HKr⟩ := hrel
            by_cases hlt : k < n
            · obtain ⟨b1, o1, rfl, hb1, hc1⟩ := (HX.out.non HKr.out).at (by omega)
              have c1 := hc1 k hlt
              have hpb := HPb.out k hlt
              have hst := keyF_step p L n k
              obtain ⟨x, hx⟩ : ∃ x, p.getD k 0 = x := ⟨_, rfl⟩
              rw [hx] at c1 hpb hst
              obtain ⟨z, rfl⟩ : ∃ z : Nat, x = z := ⟨x.toNat, by omega⟩
              rw [Int.toNat_natCast] at hst
              have hR := root_l n to L d (T + 1) T z wr HXb.out HT.out HF.out (by omega)
              obtain ⟨r, hr⟩ : ∃ r, L.getD z 0 = r := ⟨_, rfl⟩
              rw [hr] at hR hst
              have HR := hide hR
              have HSt := hide hst
              have k0 : (0 : Int) ≤ (k : Int) := by omega
              have k1 : (k : Int) < (n : Int) := by omega
              have cO : wr.cell? ⟨O, k, none⟩ = some (.int .i64 (keyF p L k k)) := by rw [HO.out.cell]; exact rowF_at _ hlt
              have fO := HO.out.free k none
              have lO := HO.out.lt
              clear hc1 hpb hst hx hr hR
              go_wp2_with fail
              refine HR.out.mono ?_
              rintro e w4 ⟨rfl, rfl⟩
              go_wp2_with fail
              go_roundw
              case rel => exact ⟨k + 1, by omega, by go_num, by
                have h1 := HO.out.store k (.int .i64 r)
                rw [rowF_set, HSt.out] at h1
                exact h1, HT.out.other (by show T ≠ O; have := HTO.out; omega) _, HXb.out.other (by show T + 1 ≠ O; have := HTO.out; omega) _, HKr.out.set (b := O) (.inr (by have := HTO.out; have := HTk.out; omega)) _⟩
              case measure => simp [intOf]; omega
            · obtain rfl : n = k := by omega
              have y7 : ¬ (n : Int) < (n : Int) := by omega
              have hpl : p.length = n := HX.out.len
              have hB := HO.out
              have hke := keyF_end p L
              rw [hpl] at hke
              rw [hke] at hB
              have ekey : (p.map fun b => L.getD b.toNat 0) = joinKeys p q := by rw [joinKeys, HJE.out]
              rw [ekey] at hB
              have hI := ints_of_blk hB (by rw [joinKeys_length]; omega)
              rw [joinKeys_length, hpl] at hI
              have hgk : Good (joinKeys p q) := by
                intro v hv
                rw [← ekey] at hv
                obtain ⟨b, hb, rfl⟩ := List.mem_map.1 hv
                obtain ⟨i, hi, rfl⟩ := List.mem_iff_getElem.1 hb
                have h1 := HPb.out i (by omega)
                rw [getD_num hi] at h1
                have h2 := HF.out.lbd p[i].toNat (by omega)
                exact wf_of (by omega) (by omega)
              have HN := hide (numbered_int (some ⟨O, 0, none⟩) n n (joinKeys p q) wr hI (by omega) hgk)
              have HL : Hid ((joinL p q).length = n) := by show _ = _; rw [joinL_length, hpl]
              clear hpl hB hke ekey hI hgk
              go_wp2_with fail
              refine HN.out.mono ?_
              rintro e w4 ⟨g, rfl, hg, hB4, hk4⟩
              have HE : Hid (NewInts w w4 (.slice (some ⟨g, 0, none⟩) n n) (joinL p q)) := ⟨g, by rw [HL.out], Nat.le_trans HKr.out.size hg, hB4, HKr.out.then hk4⟩
              clear hB4 hg hk4
              go_wp2_with fail
              go_ret2
              exact ⟨_, rfl, HE.out⟩
theorem join_no (a b : Option Addr) (n cap m cap2 : Nat) (p q : List Int) (w : World) (h : Ints w a n p) (h2 : Ints w b m q) (hg : Good p) (hg2 : Good q) (x : Int) (he : bothE p q = x) (hx : x ≠ 0) :
    Calls Try.prog 31 #[.slice a n cap, .slice b m cap2] w fun e w' => e = .returned (.tuple #[.slice none 0 0, .int .i64 x]) ∧ Keeps Non w w' := by
  have HB := both_l a b n cap m cap2 p q w h h2 hg hg2
  rw [he] at HB
  have HB2 := hide HB
  clear HB h h2 hg hg2 he
  go_enter Try.func31, Try.ntmps31
  go_wp2_with fail
  refine HB2.out.mono ?_
  rintro e w2 ⟨rfl, hk⟩
  go_wp2_with fail
  go_ret2
  exact ⟨rfl, hk⟩
end Go.Proofs.Ytkcbahfmdokalaa
