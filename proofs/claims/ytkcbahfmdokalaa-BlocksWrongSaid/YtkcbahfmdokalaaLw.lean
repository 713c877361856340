/-
  BlocksWrong: the walk. No condition.
-/
import Derived.Test.YtkcbahfmdokalaaPw
import Derived.Test.YtkcbahfmdokalaaLq
import Derived.Test.YtkcbahfmdokalaaNm
import Derived.Maps.AppendAt
namespace Go.Proofs.Ytkcbahfmdokalaa
open Go.RowKit
attribute [local go_sem] onto_cell onto_frozen
set_option linter.unusedVariables false
/-- A row of its own with one element at least, as a block. -/
theorem owns_blk {w : World} {B n : Nat} {v : Value} {q : List Int} (h : w.ownsRow B 3 1 v n (q.map (Value.int .i64))) (hn : 0 < n) :
    ∃ g cap rest, v = .slice (some ⟨g, 0, none⟩) n cap ∧ B ≤ g ∧ n ≤ cap ∧ Blk w g (q.map (Value.int .i64) ++ rest) 3 := by
  obtain ⟨hl, h2⟩ := h
  rcases h2 with ⟨rfl, rfl⟩ | ⟨g, cap, cur, rfl, hg, hh, hnc, hcm, hsz, htk⟩
  · omega
  · refine ⟨g, cap, cur.toList.drop (n * 1), rfl, hg, hnc, ?_⟩
    rw [← hl] at htk ⊢
    unfold Blk
    rw [hh]
    have e : (q.map (Value.int .i64)) ++ cur.toList.drop ((q.map (Value.int .i64)).length) = cur.toList := by
      conv => rhs; rw [← List.take_append_drop ((q.map (Value.int .i64)).length) cur.toList]
      rw [htk]
    rw [e]
theorem ints_of_front {w : World} {g n : Nat} {t : TypeId} {q : List Int} {rest : List Value} (h : Blk w g (q.map (Value.int .i64) ++ rest) t) (hl : q.length = n) (hb : n ≤ 17592186044416) : Ints w (some ⟨g, 0, none⟩) n q :=
  ⟨hl, hb, .inr ⟨g, 0, rfl, h.lt, fun i hi => by
    rw [h.cell, Nat.zero_add, List.getElem?_append_left (by simp; omega), List.getElem?_map, List.getElem?_eq_getElem (by omega), getD_num (by omega)]
    rfl⟩⟩
theorem ints_pre {w : World} {a : Option Addr} {n m : Nat} {xs : List Int} (h : Ints w a n xs) (hm : m ≤ n) : Ints w a m (xs.take m) :=
  ⟨by rw [List.length_take, h.len]; omega, Nat.le_trans hm h.big, by
    by_cases h0 : m = 0
    · exact .inl h0
    · obtain ⟨b, off, ha, hb, hc⟩ := h.at (by omega)
      exact .inr ⟨b, off, ha, hb, fun i hi => by rw [hc i (by omega), take_pre hi]⟩⟩
theorem lit_bounds {z : Int} (h : (Lit.int .i64 z).wf = true) : -9223372036854775808 ≤ z ∧ z ≤ 9223372036854775807 := by
  simp only [Lit.wf, Bool.and_eq_true, decide_eq_true_eq] at h
  exact h
theorem wf_lit {z : Int} (h1 : -9223372036854775808 ≤ z) (h2 : z ≤ 9223372036854775807) : (Lit.int .i64 z).wf = true := by
  simp only [Lit.wf, Bool.and_eq_true, decide_eq_true_eq]
  exact ⟨h1, h2⟩
theorem rows_put1 {w : World} {B i k D : Nat} {V : Int} (hB : Blk w B ((List.replicate i (Value.slice none 0 0)).set k (.slice (some ⟨D, 0, none⟩) 2 2)) 22) (hD : Blk w D [.int .i64 0, .int .i64 V] 3) (hk : k < i) (hi : i ≤ 1000) :
    Rows w (some ⟨B, 0, none⟩) i ((List.replicate i []).set k [0, V]) :=
  ⟨by simp, by omega, .inr ⟨B, 0, rfl, hB.lt, fun j hj => by
    rw [hB.cell, Nat.zero_add]
    by_cases hjk : k = j
    · subst hjk
      have e : ((List.replicate i ([] : List Int)).set k [0, V]).getD k [] = [0, V] := by
        rw [List.getD_eq_getElem?_getD, List.getElem?_set_self (by simpa using hk)]
        rfl
      rw [e, List.getElem?_set_self (by simpa using hk)]
      exact ⟨_, _, rfl, ints_of_blk (xs := [0, V]) hD (by simp)⟩
    · have e : ((List.replicate i ([] : List Int)).set k [0, V]).getD j [] = [] := by
        rw [List.getD_eq_getElem?_getD, List.getElem?_set_ne hjk, List.getElem?_replicate, if_pos hj]
        rfl
      rw [e, List.getElem?_set_ne hjk, List.getElem?_replicate, if_pos hj]
      exact ⟨none, 0, rfl, Ints.nil w none⟩⟩⟩
theorem rows_drop {w : World} {B i : Nat} {xss : List (List Int)} (h : Rows w (some ⟨B, 0, none⟩) i xss) (hi : 1 ≤ i) : Rows w (some ⟨B, 1, none⟩) (i - 1) (xss.drop 1) :=
  ⟨by rw [List.length_drop, h.len], by have := h.big; omega, by
    obtain ⟨b, o, hbe, hbl, hc⟩ := h.at (by omega)
    cases hbe
    refine .inr ⟨B, 1, rfl, hbl, fun j hj => ?_⟩
    obtain ⟨ai, ci, h1, h2⟩ := hc (1 + j) (by omega)
    have e : (xss.drop 1).getD j [] = xss.getD (1 + j) [] := by
      rw [List.getD_eq_getElem?_getD, List.getElem?_drop, List.getD_eq_getElem?_getD]
    rw [e]
    rw [Nat.zero_add] at h1
    exact ⟨ai, ci, h1, h2⟩⟩
theorem append_none {P : Program} {w : World} {t ty e : TypeId} {i : TypeInfo} (ht : P.underlying t = some (.slice e)) (hi : P.info? e = some i) (g n cap c : Nat) (hn : n ≤ cap) :
    (Builtin.append_ #[t, t] ty #[.slice (some ⟨g, 0, none⟩) n cap, .slice none 0 c]).run P w = .ok (.slice (some ⟨g, 0, none⟩) n cap) w := by
  simp [Builtin.append_, run_underlying ht, sizeOf, typeInfo, hi, Builtin.lenOf, Builtin.firstCells, loadCells, storeCells, hn]
theorem append_ints {w : World} {base g m c1 : Nat} {a1 : Option Addr} {q : List Int} (hown : w.ownsRow base 3 1 (.slice (some ⟨g, 0, none⟩) 1 1) 1 [Value.int .i64 0]) (h : Ints w a1 m q) (hm : m ≤ 1000) (hb : base ≤ w.heap.size) :
    ∃ v' w', (Builtin.append_ #[22, 22] 22 #[.slice (some ⟨g, 0, none⟩) 1 1, .slice a1 m c1]).run Try.prog w = .ok v' w' ∧ w'.ownsRow base 3 1 v' (1 + m) ((0 :: q).map (Value.int .i64)) ∧ w.grownBy w' (some g) := by
  obtain ⟨i0, hi, hz0, hz1, hz2⟩ := info3_parts
  cases a1 with
  | none =>
    have hm0 : m = 0 := by
      rcases h.cell with h | ⟨b, off, h, _⟩
      · exact h
      · cases h
    subst hm0
    have hq : q = [] := List.eq_nil_of_length_eq_zero h.len
    subst hq
    exact ⟨_, w, append_none Try.underlying22 hi g 1 1 c1 (by omega), hown, ⟨rfl, rfl, rfl, Nat.le_refl _, fun _ _ _ => rfl⟩⟩
  | some ad =>
    obtain ⟨v', w', h1, h2, h3, h4, h5⟩ := run_append_own_at (P := Try.prog) w base 22 22 3 i0 (.int .i64 0) 1 8 Try.underlying22 hi hz0 hz1 hz2 rfl (by decide) (.slice (some ⟨g, 0, none⟩) 1 1) 1 [Value.int .i64 0] hown ad m c1 (q.map (Value.int .i64)) (by simp [h.len]) (fun j u hj => by
      have hjl : j < q.length := by
        have := (List.getElem?_eq_some_iff.1 hj).1
        simpa using this
      have hl := h.len
      obtain ⟨b, off, ha, hb2, hc⟩ := h.at (by omega)
      cases ha
      have := hc j (by omega)
      rw [List.getElem?_map, List.getElem?_eq_getElem hjl] at hj
      simp at hj
      rw [getD_num hjl] at this
      rw [← hj]
      rw [Addr.add_lit]
      exact this) (fun u hu => by
      obtain ⟨x, _, rfl⟩ := List.mem_map.1 hu
      rfl) (by unfold maxLen; omega) (by omega) hb
    exact ⟨v', w', h1, by simpa using h2, h3⟩
theorem wpList_append_eq {P : Program} {w : World} {ops : Array Oper} {rest : List Oper} {o : Oper} {a : Act} {Q : Exit → Act → World → Prop} (hgd : o.guard = none) (s x : Operand) (t : TypeId)
    (ho : o.op = .call { callee := .builtin .append, args := #[s, x], argTypes := #[t, t] }) (v1 v2 v' : Value) (w' : World) (hs : a.eval s = v1) (hx : a.eval x = v2)
    (hr : (Builtin.append_ #[t, t] o.type #[v1, v2]).run P w = .ok v' w') (h : wpList P ops Q rest (a.put o.dst v') w') : wpList P ops Q (o :: rest) a w := by
  refine wpList_plain hgd fun K hK => ?_
  unfold Oper.wp execOp
  simp only [ho, resolve, invoke, builtin, Sem.run_bind, Sem.run_pure, Result.andThen_ok, List.map_toArray, List.map_cons, List.map_nil, hs, hx, hr]
  exact hK _ _ h
set_option maxRecDepth 100000 in
set_option maxHeartbeats 16000000 in
theorem law_wrong (a : Option Addr) (n1 d1 : Nat) (xs : List Int) (how at' z : Int) (w : World) (h1 : BySl w a n1 d1 xs) (hh : 0 ≤ how ∧ how ≤ 255) (ha : 0 ≤ at' ∧ at' ≤ 255) (hz : (Lit.int .i64 z).wf = true) :
    Calls Try.prog 12 #[.slice a n1 d1, .int .u8 how, .int .u8 at', .int .i64 z] w fun e w' => e = .returned (.bool true) ∧ Keeps Non w w' := by
  obtain ⟨i0, hi, hz0, hz1, hz2⟩ := info3_parts
  obtain ⟨m, hm⟩ : ∃ m, min 30 n1 = m := ⟨_, rfl⟩
  have hT : Hid (∀ w', Keeps Non w w' → Calls Try.prog 25 #[.slice a n1 d1] w' fun e w2 => ∃ a1 c1, e = .returned (.slice a1 m c1) ∧ Ints w2 a1 m (madeL xs) ∧ Keeps Non w' w2) := fun w' k => made_c a n1 d1 m xs w' ⟨h1.by'.non k, h1.room, h1.nil⟩ hm
  have P0 : Hid (Pt m (madeL xs)) := pt_madeL (by rw [h1.by'.len]; exact hm)
  have hm30 : m ≤ 30 := by omega
  have HK := hide (Keeps.refl Non w)
  have HZ := hide hz
  clear h1 hm hz
  go_enter Try.func12, Try.ntmps12
  go_wp2_with fail
  refine (hT.out (w.alloc (.cells #[.int .i64 0] 3)) (HK.out.alloc _)).mono ?_
  rintro e w1 ⟨a1, c1, rfl, i1, k1⟩
  obtain ⟨q, hq⟩ : ∃ q, madeL xs = q := ⟨_, rfl⟩
  rw [hq] at P0 i1
  have hB0 : Blk w1 w.heap.size [Value.int .i64 0] 3 := (Blk.new w [Value.int .i64 0] 3).non k1
  have hO : w1.ownsRow w.heap.size 3 1 (.slice (some ⟨w.heap.size, 0, none⟩) 1 1) 1 [Value.int .i64 0] := ⟨rfl, .inr ⟨w.heap.size, 1, #[.int .i64 0], rfl, Nat.le_refl _, hB0, Nat.le_refl _, by decide, rfl, rfl⟩⟩
  obtain ⟨v2, w2, hr, ho2, hg2⟩ := append_ints (c1 := c1) hO i1 (by omega) (Nat.le_of_lt hB0.lt)
  have HK2 := hide (keeps_grown ((HK.out.alloc (.cells #[.int .i64 0] 3)).then k1) hg2 (fun g hg => .inr (by cases hg; omega)))
  obtain ⟨g, cap, rest, rfl, hgB, hcap, hB2⟩ := owns_blk ho2 (by omega)
  obtain ⟨n, hn⟩ : ∃ n, 1 + m = n := ⟨_, rfl⟩
  rw [hn] at hr hcap
  have HB2 := hide hB2
  have HgB := hide hgB
  have hql : Hid ((0 :: q).length = n) := by show _ = _; rw [← hn, List.length_cons, P0.out.len]; omega
  have hnn : n ≤ 31 := by omega
  have hn1 : 1 ≤ n := by omega
  obtain ⟨r, hrq⟩ : ∃ r, (0 :: q) = r := ⟨_, rfl⟩
  rw [hrq] at hql HB2
  have HP : Hid (Pt n (bump r n)) := by
    have e := bump_end q
    rw [P0.out.len, Nat.add_comm, hn, hrq] at e
    rw [e]
    have := upP_pt P0.out
    rw [Nat.add_comm, hn] at this
    exact this
  have HY : Hid (∀ i, i < n → 0 ≤ r.getD i 0 ∧ r.getD i 0 < 100) := fun i hin => by
    rw [← hrq]
    cases i with
    | zero => simp
    | succ i =>
      have := isP_bound P0.out.isP i (by rw [P0.out.len]; omega)
      rw [P0.out.len] at this
      simp only [List.getD_cons_succ]
      omega
  clear hT hq i1 k1 hB0 hO ho2 hg2 hB2 hgB HK P0 hrq hn
  go_wp2_with (at_builtin; refine wpList_append_eq rfl _ _ 22 rfl _ _ _ _ rfl rfl hr ?_)
  go_loopw [10] (fun t wr => ∃ (i : Nat), 1 ≤ i ∧ i ≤ n ∧ t = .int .i64 i ∧ Hid (Blk wr g ((bump r i).map (Value.int .i64) ++ rest) 3) ∧ Hid (Keeps Non w wr)) (fun t _ => n - (intOf t).toNat)
  case atStart => exact ⟨1, by omega, by omega, rfl, by rw [bump_start]; exact HB2.out, HK2.out⟩
  case round =>
    clear HB2 HK2 hr
    obtain ⟨i, hi1, hin, rfl, HBr, HKr⟩ := hrel
    by_cases hlt : i < n
    · obtain ⟨y, hy⟩ : ∃ y, r.getD i 0 = y := ⟨_, rfl⟩
      have HYy := hide hy
      have hyb := HY.out i hlt
      rw [hy] at hyb
      obtain ⟨y1, y2⟩ := hyb
      have cP : wr.cell? ⟨g, i, none⟩ = some (.int .i64 y) := by
        rw [HBr.out.cell, List.getElem?_append_left (by rw [List.length_map, bump_length, hql.out]; exact hlt), List.getElem?_map, bump_at (by rw [hql.out]; exact hlt), if_neg (by omega), hy]
        rfl
      have fP := HBr.out.free i none
      have lP := HBr.out.lt
      clear hy
      go_wp2_with fail
      go_roundw
      case rel => exact ⟨i + 1, by omega, by omega, by go_num, by
        have h1 := HBr.out.store i (.int .i64 (y + 1))
        rw [List.set_append_left _ _ (by rw [List.length_map, bump_length, hql.out]; exact hlt), ← List.map_set, ← HYy.out, bump_step r hi1 (by rw [hql.out]; exact hlt)] at h1
        rw [← HYy.out]
        exact h1, HKr.out.set (.inr HgB.out) _⟩
      case measure => simp [intOf]; omega
    · have hie : i = n := by omega
      subst hie
      have y9 : ¬ (i : Int) < (i : Int) := by omega
      have I3 := hide (ints_of_front (n := i) HBr.out (by rw [bump_length, hql.out]) (by omega))
      obtain ⟨p, hp⟩ : ∃ p, bump r i = p := ⟨_, rfl⟩
      rw [hp] at HP I3
      clear HBr hp HY hql
      have hms := make36 wr i (by omega)
      have HK3 := hide (HKr.out.alloc (.cells (Array.replicate i (Value.slice none 0 0)) 22))
      have HR3 : Hid (Blk (wr.alloc (.cells (Array.replicate i (Value.slice none 0 0)) 22)) wr.heap.size (List.replicate i (Value.slice none 0 0)) 22) := by
        rw [← List.toArray_replicate]
        exact Blk.new wr (List.replicate i (Value.slice none 0 0)) 22
      have I3b := hide (I3.out.non (((Keeps.refl Non wr)).alloc (.cells (Array.replicate i (Value.slice none 0 0)) 22)))
      obtain ⟨B, hB⟩ : ∃ B, wr.heap.size = B := ⟨_, rfl⟩
      have HBs := hide hB
      have HBw : Hid (w.heap.size ≤ B) := by show _ ≤ _; have := HKr.out.size; omega
      go_wp2_with fail
      obtain ⟨W3, hW3⟩ : ∃ W, wr.alloc (.cells (Array.replicate i (Value.slice none 0 0)) 22) = W := ⟨_, rfl⟩
      rw [hW3] at HK3 HR3 I3b
      rw [hB] at HR3
      try rw [hW3]
      try rw [hB]
      have hBg : Hid (B ≠ g) := by
        obtain ⟨b, o, hbe, hbl, _⟩ := I3.out.at (by omega)
        cases hbe
        show _ ≠ _
        omega
      clear hms hB hW3 I3 HKr
      refine (clone_own (some ⟨g, 0, none⟩) i cap p W3 I3b.out (by omega)).mono ?_
      rintro e w4 ⟨v4, rfl, ho4, hk4⟩
      obtain ⟨g4, cap4, rest4, rfl, hg4, hc4, hb4⟩ := owns_blk ho4 (by omega)
      have HB4 := hide hb4
      have HK4 := hide (HK3.out.then hk4)
      have HR4 := hide (HR3.out.non hk4)
      have I4 := hide (I3b.out.non hk4)
      have Hg4 : Hid (w.heap.size ≤ g4 ∧ g4 ≠ B ∧ g4 ≠ g) := by
        have := HR3.out.lt
        have := HK3.out.size
        obtain ⟨b, o, hbe, hbl, _⟩ := I3b.out.at (by omega)
        cases hbe
        exact ⟨by omega, by omega, by omega⟩
      clear HR3 I3b HK3 ho4 hk4 hb4 hg4
      obtain ⟨k, hk⟩ : ∃ k, (at' % (i : Int)).toNat = k := ⟨_, rfl⟩
      have hk1 : at' % (i : Int) = k := by have := Int.emod_nonneg at' (b := (i : Int)) (by omega); omega
      have hki : k < i := by have := Int.emod_lt_of_pos at' (b := (i : Int)) (by omega); omega
      have r1 : at'.tmod (i : Int) = (k : Int) := by rw [Int.tmod_eq_emod_of_nonneg (by omega), hk1]
      have r2 : IntKind.i64.wrap at' = at' := IntWalk.i64_in _ (by omega)
      have r3 : ¬ i = 0 := by omega
      have hp2 : how.tmod 2 = 0 ∨ how.tmod 2 = 1 := by rw [Int.tmod_eq_emod_of_nonneg (by omega)]; omega
      have hp3 : (how.tdiv 2).tmod 2 = 0 ∨ (how.tdiv 2).tmod 2 = 1 := by rw [Int.tdiv_eq_ediv_of_nonneg (by omega), Int.tmod_eq_emod_of_nonneg (by omega)]; omega
      clear hk hk1
      have c4 : w4.cell? ⟨g4, k, none⟩ = some (.int .i64 (p.getD k 0)) := by
        rw [HB4.out.cell, List.getElem?_append_left (by rw [List.length_map, HP.out.len]; exact hki), List.getElem?_map, List.getElem?_eq_getElem (by rw [HP.out.len]; exact hki), getD_num (by rw [HP.out.len]; exact hki)]
        rfl
      have f4 := HB4.out.free k none
      have l4 := HB4.out.lt
      obtain ⟨ym, hym⟩ : ∃ y, min z (-1) = y := ⟨_, rfl⟩
      obtain ⟨yx, hyx⟩ : ∃ y, max z (i : Int) = y := ⟨_, rfl⟩
      have hzb := lit_bounds HZ.out
      have HYm : Hid (ym < 0 ∧ (Lit.int .i64 ym).wf = true) := ⟨by omega, wf_lit (by omega) (by omega)⟩
      have HYx : Hid ((i : Int) ≤ yx ∧ (Lit.int .i64 yx).wf = true) := ⟨by omega, wf_lit (by omega) (by omega)⟩
      have HGp : Hid (Good p) := pt_good HP.out (by omega)
      have HRt : Hid (rightB p = true) := pt_right HP.out (by omega)
      clear hzb
      have HgB2 : Hid (B ≠ g) := by show _ ≠ _; exact hBg.out
      obtain ⟨h2, hh2⟩ : ∃ h2, how.tdiv 2 = h2 := ⟨_, rfl⟩
      have hb2 : 0 ≤ h2 ∧ h2 ≤ 127 := by rw [← hh2, Int.tdiv_eq_ediv_of_nonneg (by omega)]; omega
      rw [hh2] at hp3
      have hw8 : IntKind.u8.wrap h2 = h2 := IntWalk.u8_in _ (by omega)
      rcases hp2 with e2 | e2
      · go_wp2_with fail
        obtain ⟨w5, hw5⟩ : ∃ W, w4.setCell ⟨g4, k, none⟩ (.int .i64 ym) = W := ⟨_, rfl⟩
        have hb5 := HB4.out.store k (.int .i64 ym)
        rw [List.set_append_left _ _ (by rw [List.length_map, HP.out.len]; exact hki), ← List.map_set, hw5] at hb5
        have Ib : Hid (Ints w5 (some ⟨g4, 0, none⟩) i (p.set k ym)) := ints_of_front hb5 (by rw [List.length_set, HP.out.len]) (by omega)
        have hks := (Keeps.refl (fun b => b = g4) w4).set (b := g4) (i := k) (.inl rfl) (.int .i64 ym)
        rw [hw5] at hks
        have Ip : Hid (Ints w5 (some ⟨g, 0, none⟩) i p) := I4.out.keeps hks (fun b o hbe => by cases hbe; have := Hg4.out.2.2; omega)
        have HR : Hid (Blk w5 B (List.replicate i (Value.slice none 0 0)) 22) := HR4.out.keeps hks (by have := Hg4.out.2.1; omega)
        have HK := hide (HK4.out.set (b := g4) (i := k) (.inr Hg4.out.1) (.int .i64 ym))
        rw [hw5] at HK
        try rw [hw5]
        have Hbad : Hid (rightB (p.set k ym) = false) := bad_not HP.out hki (by have := HYm.out.1; omega)
        have Hgb : Hid (Good (p.set k ym)) := fun x hx => by
          rcases List.mem_or_eq_of_mem_set hx with h | rfl
          · exact HGp.out x h
          · exact HYm.out.2
        obtain ⟨bd, hbd⟩ : ∃ bd, p.set k ym = bd := ⟨_, rfl⟩
        rw [hbd] at Ib Hbad Hgb
        clear hbd hb5 hks hw5 c4 f4 l4 HB4 I4 HR4 HK4
        have C := hide (countE_no (cap := cap4) Ib.out Hgb.out Hbad.out)
        go_wp2_with fail
        refine C.out.mono ?_
        rintro e w6 ⟨rfl, hk⟩
        replace Ib := hide (Ib.out.non hk)
        replace Ip := hide (Ip.out.non hk)
        replace HR := hide (HR.out.non hk)
        replace HK := hide (HK.out.then hk)
        clear hk C
        have C := hide (members_no (some ⟨g4, 0, none⟩) i cap4 bd w6 Ib.out Hgb.out Hbad.out)
        go_wp2_with fail
        refine C.out.mono ?_
        rintro e w7 ⟨rfl, hk⟩
        replace Ib := hide (Ib.out.non hk)
        replace Ip := hide (Ip.out.non hk)
        replace HR := hide (HR.out.non hk)
        replace HK := hide (HK.out.then hk)
        clear hk C
        have C := hide (meet_no (some ⟨g4, 0, none⟩) (some ⟨g, 0, none⟩) i cap4 i cap bd p w7 Ib.out Ip.out Hgb.out HGp.out 60 (bothE_1 Hbad.out) (by decide))
        go_wp2_with fail
        refine C.out.mono ?_
        rintro e w8 ⟨rfl, hk⟩
        replace Ib := hide (Ib.out.non hk)
        replace Ip := hide (Ip.out.non hk)
        replace HR := hide (HR.out.non hk)
        replace HK := hide (HK.out.then hk)
        clear hk C
        have C := hide (join_no (some ⟨g, 0, none⟩) (some ⟨g4, 0, none⟩) i cap i cap4 p bd w8 Ip.out Ib.out HGp.out Hgb.out 60 (bothE_2 Hbad.out) (by decide))
        go_wp2_with fail
        refine C.out.mono ?_
        rintro e w9 ⟨rfl, hk⟩
        replace Ib := hide (Ib.out.non hk)
        replace Ip := hide (Ip.out.non hk)
        replace HR := hide (HR.out.non hk)
        replace HK := hide (HK.out.then hk)
        clear hk C
        have C := hide (finer_no (some ⟨g, 0, none⟩) (some ⟨g4, 0, none⟩) i cap i cap4 p bd w9 Ip.out Ib.out HGp.out Hgb.out 60 (bothE_2 Hbad.out) (by decide))
        go_wp2_with fail
        refine C.out.mono ?_
        rintro e w10 ⟨rfl, hk⟩
        replace Ib := hide (Ib.out.non hk)
        replace Ip := hide (Ip.out.non hk)
        replace HR := hide (HR.out.non hk)
        replace HK := hide (HK.out.then hk)
        clear hk C
        have C := hide (refine_no (some ⟨g4, 0, none⟩) none i cap4 0 0 bd [] w10 Ib.out ⟨rfl, by omega, .inl rfl⟩ Hgb.out 60 (wrongE_60 Hbad.out) (by decide))
        go_wp2_with fail
        refine C.out.mono ?_
        rintro e w11 ⟨rfl, hk⟩
        replace Ib := hide (Ib.out.non hk)
        replace Ip := hide (Ip.out.non hk)
        replace HR := hide (HR.out.non hk)
        replace HK := hide (HK.out.then hk)
        clear hk C
        have C := hide (quotient_no (some ⟨g4, 0, none⟩) none i cap4 0 0 bd [] w11 Ib.out ⟨rfl, by omega, .inl rfl⟩ Hgb.out 60 (wrongE_60 Hbad.out) (by decide))
        go_wp2_with fail
        refine C.out.mono ?_
        rintro e w12 ⟨rfl, hk⟩
        replace Ib := hide (Ib.out.non hk)
        replace Ip := hide (Ip.out.non hk)
        replace HR := hide (HR.out.non hk)
        replace HK := hide (HK.out.then hk)
        clear hk C
        have C := hide (right_at (some ⟨g4, 0, none⟩) i cap4 bd false w12 Ib.out Hgb.out Hbad.out)
        go_wp2_with fail
        refine C.out.mono ?_
        rintro e w13 ⟨rfl, hk⟩
        replace Ib := hide (Ib.out.non hk)
        replace Ip := hide (Ip.out.non hk)
        replace HR := hide (HR.out.non hk)
        replace HK := hide (HK.out.then hk)
        clear hk C
        clear Ib Hbad Hgb
        obtain ⟨j, hj⟩ : ∃ j, i = j + 1 := ⟨i - 1, by omega⟩
        have s1 : ((i : Int) - 1).toNat = j := by omega
        have s2 : (0 : Int) ≤ (i : Int) - 1 := by omega
        have s3 : (i : Int) - 1 ≤ (cap : Int) := by omega
        have s4 : j ≤ cap := by omega
        have s5 : (i : Int) - 1 = (j : Int) := by omega
        have HPj : Hid (Pt j (p.take j)) := take_pt HP.out (by omega)
        have HJ := hide (rightB_iff.2 ⟨by rw [HPj.out.len]; omega, HPj.out.isP⟩)
        have HGj : Hid (Good (p.take j)) := pt_good HPj.out (by omega)
        have HLj : Hid (p.length ≠ (p.take j).length) := by show _ ≠ _; rw [HP.out.len, HPj.out.len]; omega
        have Hne : Hid (i ≠ j) := by show _ ≠ _; omega
        have Ij := hide (ints_pre Ip.out (show j ≤ i by omega))
        clear hj
        have C := hide (meet_no (some ⟨g, 0, none⟩) (some ⟨g, 0, none⟩) i cap j cap p (p.take j) w13 Ip.out Ij.out HGp.out HGj.out 2 (bothE_3 HRt.out HJ.out HLj.out) (by decide))
        go_wp2_with fail
        refine C.out.mono ?_
        rintro e w14 ⟨rfl, hk⟩
        replace Ip := hide (Ip.out.non hk)
        replace HR := hide (HR.out.non hk)
        replace Ij := hide (Ij.out.non hk)
        replace HK := hide (HK.out.then hk)
        clear hk C
        have C := hide (finer_no (some ⟨g, 0, none⟩) (some ⟨g, 0, none⟩) j cap i cap (p.take j) p w14 Ij.out Ip.out HGj.out HGp.out 2 (bothE_3 HJ.out HRt.out (Ne.symm HLj.out)) (by decide))
        go_wp2_with fail
        refine C.out.mono ?_
        rintro e w15 ⟨rfl, hk⟩
        replace Ip := hide (Ip.out.non hk)
        replace HR := hide (HR.out.non hk)
        replace Ij := hide (Ij.out.non hk)
        replace HK := hide (HK.out.then hk)
        clear hk C
        clear Ij HGj HLj HJ HPj
        have cB : w15.cell? ⟨B, k, none⟩ = some (.slice none 0 0) := by
          rw [HR.out.cell, List.getElem?_replicate, if_pos hki]
        have fB := HR.out.free k none
        have lB := HR.out.lt
        rcases hp3 with e3 | e3
        · have cA : (w15.alloc (.cells #[.int .i64 ym, .int .i64 yx] 3)).cell? ⟨w15.heap.size, 0, none⟩ = some (.int .i64 ym) := (Blk.new w15 [.int .i64 ym, .int .i64 yx] 3).cell 0
          have hA := ((Keeps.refl Non w15).alloc (.cells #[.int .i64 ym, .int .i64 yx] 3)).alloc (.cells #[.int .i64 0, .int .i64 ym] 3)
          have cB2 : ((w15.alloc (.cells #[.int .i64 ym, .int .i64 yx] 3)).alloc (.cells #[.int .i64 0, .int .i64 ym] 3)).cell? ⟨B, k, none⟩ = some (.slice none 0 0) := by
            rw [(HR.out.non hA).cell, List.getElem?_replicate, if_pos hki]
          have fB2 := (HR.out.non hA).free k none
          have lB2 := (HR.out.non hA).lt
          have bB : Blk (((w15.setCell ⟨B, k, none⟩ (.slice (some ⟨w15.heap.size + 1, 0, none⟩) 2 2)).alloc (.cells #[.int .i64 ym, .int .i64 yx] 3)).alloc (.cells #[.int .i64 0, .int .i64 ym] 3)) B _ 22 := ((HR.out.store k (.slice (some ⟨w15.heap.size + 1, 0, none⟩) 2 2)).alloc (.cells #[.int .i64 ym, .int .i64 yx] 3)).alloc (.cells #[.int .i64 0, .int .i64 ym] 3)
          have bN2 : Blk (((w15.setCell ⟨B, k, none⟩ (.slice (some ⟨w15.heap.size + 1, 0, none⟩) 2 2)).alloc (.cells #[.int .i64 ym, .int .i64 yx] 3)).alloc (.cells #[.int .i64 0, .int .i64 ym] 3)) (w15.heap.size + 1) [.int .i64 0, .int .i64 ym] 3 := Blk.newAt ((w15.setCell ⟨B, k, none⟩ (.slice (some ⟨w15.heap.size + 1, 0, none⟩) 2 2)).alloc (.cells #[.int .i64 ym, .int .i64 yx] 3)) [.int .i64 0, .int .i64 ym] 3 (by simp [World.setCell])
          have Rn := hide (rows_put1 bB bN2 hki (by omega))
          have hB4 := ((((Keeps.refl (fun b => b = B) w15).set (b := B) (i := k) (.inl rfl) (.slice (some ⟨w15.heap.size + 1, 0, none⟩) 2 2)).alloc (.cells #[.int .i64 ym, .int .i64 yx] 3)).alloc (.cells #[.int .i64 0, .int .i64 ym] 3))
          have Ip2 := hide (Ip.out.keeps hB4 (fun b o hbe => by cases hbe; exact Ne.symm HgB2.out))
          have HKn := hide (((HK.out.set (b := B) (i := k) (.inr HBw.out) (.slice (some ⟨w15.heap.size + 1, 0, none⟩) 2 2)).alloc (.cells #[.int .i64 ym, .int .i64 yx] 3)).alloc (.cells #[.int .i64 0, .int .i64 ym] 3))
          have HBn := hide bB
          have HNn := hide bN2
          have HNB : Hid (B ≠ w15.heap.size + 1) := by have := HR.out.lt; show _ ≠ _; omega
          have HWr := hide (wrongE_61 HRt.out (by rw [HP.out.len]; exact row_not hki (v := ym) (by have := HYm.out.1; omega)))
          clear hA bB bN2 hB4
          go_wp2_with fail
          obtain ⟨W, hW⟩ : ∃ W, (((w15.setCell ⟨B, k, none⟩ (.slice (some ⟨w15.heap.size + 1, 0, none⟩) 2 2)).alloc (.cells #[.int .i64 ym, .int .i64 yx] 3)).alloc (.cells #[.int .i64 0, .int .i64 ym] 3)) = W := ⟨_, rfl⟩
          rw [hW] at Rn Ip2 HKn HBn HNn
          try rw [hW]
          obtain ⟨D, hD⟩ : ∃ D, w15.heap.size + 1 = D := ⟨_, rfl⟩
          rw [hD] at HBn HNn HNB
          have HDw : Hid (w.heap.size ≤ D) := by show _ ≤ _; have := HK.out.size; omega
          clear hW hD cA cB2 fB2 lB2 cB fB lB Ip HR HK
          refine (refine_no (some ⟨g, 0, none⟩) (some ⟨B, 0, none⟩) i cap i i p _ W Ip2.out Rn.out HGp.out 61 HWr.out (by decide)).mono ?_
          rintro e W2 ⟨rfl, hk⟩
          replace Ip2 := hide (Ip2.out.non hk)
          replace Rn := hide (Rn.out.non hk)
          replace HBn := hide (HBn.out.non hk)
          replace HNn := hide (HNn.out.non hk)
          replace HKn := hide (HKn.out.then hk)
          clear hk
          have HS := hide (stable_no (some ⟨g, 0, none⟩) (some ⟨B, 1, none⟩) i cap (i - 1) (i - 1) p (((List.replicate i ([] : List Int)).set k [0, ym]).drop 1) W2 Ip2.out (rows_drop Rn.out (by omega)) HGp.out 61 (wrongE_61 HRt.out (fun h => by have := h.1; simp [HP.out.len] at this; omega)) (by decide))
          have HS1 := hide (stable_no (some ⟨g, 0, none⟩) (some ⟨B, 0, none⟩) i cap 0 0 p [] W2 Ip2.out ⟨rfl, by omega, .inl rfl⟩ HGp.out 61 (wrongE_61 HRt.out (fun h => by have := h.1; simp [HP.out.len] at this; omega)) (by decide))
          have HPl : Hid (p.length = i) := HP.out.len
          have HC : Hid (∀ W3, Keeps Non W2 W3 → ∃ v' W4, (Builtin.append_ #[36, 36] 36 #[.slice (some ⟨B, 0, none⟩) i i, .slice (some ⟨W3.heap.size, 0, none⟩) 1 1]).run Try.prog (W3.alloc (.cells #[.slice none 0 0] 22)) = .ok v' W4 ∧ Keeps Non w W4 ∧ Calls Try.prog 27 #[.slice (some ⟨g, 0, none⟩) i cap, v'] W4 fun e w' => e = .returned (.tuple #[.slice none 0 0, .int .i64 0, .int .i64 61]) ∧ Keeps Non W4 w') := fun W3 hk => next_more HBn.out HNn.out Ip2.out HKn.out hk hki (by omega) HBw.out HNB.out (by have := HDw.out; exact this) HGp.out HRt.out HPl.out
          clear HBn HNn Rn HWr HPl
          go_wp2_with fail
          all_goals
            first | (rw [h] at HS1 HC; replace HS := HS1; clear HS1) | clear HS1
            refine HS.out.mono ?_
            rintro e W3 ⟨rfl, hk⟩
            obtain ⟨v', W4, hr, hk4, hC⟩ := HC.out W3 hk
            have HKz := hide hk4
            have HCC := hide hC
            clear hk hk4 hC
            go_wp2_with (at_builtin; refine wpList_append_eq rfl _ _ 36 rfl _ _ _ _ rfl rfl hr ?_)
            refine HCC.out.mono ?_
            rintro e W5 ⟨rfl, hk⟩
            have HKy := hide (HKz.out.then hk)
            clear hk HCC HC hr
            have HAw := hide (awake_l W5)
            go_wp2_with fail
            refine HAw.out.mono ?_
            rintro e W6 ⟨rfl, hk⟩
            go_wp2_with fail
            go_ret
            exact ⟨rfl, HKy.out.then hk⟩
        · have cA : (w15.alloc (.cells #[.int .i64 ym, .int .i64 yx] 3)).cell? ⟨w15.heap.size, 1, none⟩ = some (.int .i64 yx) := (Blk.new w15 [.int .i64 ym, .int .i64 yx] 3).cell 1
          have hA := ((Keeps.refl Non w15).alloc (.cells #[.int .i64 ym, .int .i64 yx] 3)).alloc (.cells #[.int .i64 0, .int .i64 yx] 3)
          have cB2 : ((w15.alloc (.cells #[.int .i64 ym, .int .i64 yx] 3)).alloc (.cells #[.int .i64 0, .int .i64 yx] 3)).cell? ⟨B, k, none⟩ = some (.slice none 0 0) := by
            rw [(HR.out.non hA).cell, List.getElem?_replicate, if_pos hki]
          have fB2 := (HR.out.non hA).free k none
          have lB2 := (HR.out.non hA).lt
          have bB : Blk (((w15.setCell ⟨B, k, none⟩ (.slice (some ⟨w15.heap.size + 1, 0, none⟩) 2 2)).alloc (.cells #[.int .i64 ym, .int .i64 yx] 3)).alloc (.cells #[.int .i64 0, .int .i64 yx] 3)) B _ 22 := ((HR.out.store k (.slice (some ⟨w15.heap.size + 1, 0, none⟩) 2 2)).alloc (.cells #[.int .i64 ym, .int .i64 yx] 3)).alloc (.cells #[.int .i64 0, .int .i64 yx] 3)
          have bN2 : Blk (((w15.setCell ⟨B, k, none⟩ (.slice (some ⟨w15.heap.size + 1, 0, none⟩) 2 2)).alloc (.cells #[.int .i64 ym, .int .i64 yx] 3)).alloc (.cells #[.int .i64 0, .int .i64 yx] 3)) (w15.heap.size + 1) [.int .i64 0, .int .i64 yx] 3 := Blk.newAt ((w15.setCell ⟨B, k, none⟩ (.slice (some ⟨w15.heap.size + 1, 0, none⟩) 2 2)).alloc (.cells #[.int .i64 ym, .int .i64 yx] 3)) [.int .i64 0, .int .i64 yx] 3 (by simp [World.setCell])
          have Rn := hide (rows_put1 bB bN2 hki (by omega))
          have hB4 := ((((Keeps.refl (fun b => b = B) w15).set (b := B) (i := k) (.inl rfl) (.slice (some ⟨w15.heap.size + 1, 0, none⟩) 2 2)).alloc (.cells #[.int .i64 ym, .int .i64 yx] 3)).alloc (.cells #[.int .i64 0, .int .i64 yx] 3))
          have Ip2 := hide (Ip.out.keeps hB4 (fun b o hbe => by cases hbe; exact Ne.symm HgB2.out))
          have HKn := hide (((HK.out.set (b := B) (i := k) (.inr HBw.out) (.slice (some ⟨w15.heap.size + 1, 0, none⟩) 2 2)).alloc (.cells #[.int .i64 ym, .int .i64 yx] 3)).alloc (.cells #[.int .i64 0, .int .i64 yx] 3))
          have HBn := hide bB
          have HNn := hide bN2
          have HNB : Hid (B ≠ w15.heap.size + 1) := by have := HR.out.lt; show _ ≠ _; omega
          have HWr := hide (wrongE_61 HRt.out (by rw [HP.out.len]; exact row_not hki (v := yx) (by have := HYx.out.1; omega)))
          clear hA bB bN2 hB4
          go_wp2_with fail
          obtain ⟨W, hW⟩ : ∃ W, (((w15.setCell ⟨B, k, none⟩ (.slice (some ⟨w15.heap.size + 1, 0, none⟩) 2 2)).alloc (.cells #[.int .i64 ym, .int .i64 yx] 3)).alloc (.cells #[.int .i64 0, .int .i64 yx] 3)) = W := ⟨_, rfl⟩
          rw [hW] at Rn Ip2 HKn HBn HNn
          try rw [hW]
          obtain ⟨D, hD⟩ : ∃ D, w15.heap.size + 1 = D := ⟨_, rfl⟩
          rw [hD] at HBn HNn HNB
          have HDw : Hid (w.heap.size ≤ D) := by show _ ≤ _; have := HK.out.size; omega
          clear hW hD cA cB2 fB2 lB2 cB fB lB Ip HR HK
          refine (refine_no (some ⟨g, 0, none⟩) (some ⟨B, 0, none⟩) i cap i i p _ W Ip2.out Rn.out HGp.out 61 HWr.out (by decide)).mono ?_
          rintro e W2 ⟨rfl, hk⟩
          replace Ip2 := hide (Ip2.out.non hk)
          replace Rn := hide (Rn.out.non hk)
          replace HBn := hide (HBn.out.non hk)
          replace HNn := hide (HNn.out.non hk)
          replace HKn := hide (HKn.out.then hk)
          clear hk
          have HS := hide (stable_no (some ⟨g, 0, none⟩) (some ⟨B, 1, none⟩) i cap (i - 1) (i - 1) p (((List.replicate i ([] : List Int)).set k [0, yx]).drop 1) W2 Ip2.out (rows_drop Rn.out (by omega)) HGp.out 61 (wrongE_61 HRt.out (fun h => by have := h.1; simp [HP.out.len] at this; omega)) (by decide))
          have HS1 := hide (stable_no (some ⟨g, 0, none⟩) (some ⟨B, 0, none⟩) i cap 0 0 p [] W2 Ip2.out ⟨rfl, by omega, .inl rfl⟩ HGp.out 61 (wrongE_61 HRt.out (fun h => by have := h.1; simp [HP.out.len] at this; omega)) (by decide))
          have HPl : Hid (p.length = i) := HP.out.len
          have HC : Hid (∀ W3, Keeps Non W2 W3 → ∃ v' W4, (Builtin.append_ #[36, 36] 36 #[.slice (some ⟨B, 0, none⟩) i i, .slice (some ⟨W3.heap.size, 0, none⟩) 1 1]).run Try.prog (W3.alloc (.cells #[.slice none 0 0] 22)) = .ok v' W4 ∧ Keeps Non w W4 ∧ Calls Try.prog 27 #[.slice (some ⟨g, 0, none⟩) i cap, v'] W4 fun e w' => e = .returned (.tuple #[.slice none 0 0, .int .i64 0, .int .i64 61]) ∧ Keeps Non W4 w') := fun W3 hk => next_more HBn.out HNn.out Ip2.out HKn.out hk hki (by omega) HBw.out HNB.out (by have := HDw.out; exact this) HGp.out HRt.out HPl.out
          clear HBn HNn Rn HWr HPl
          go_wp2_with fail
          all_goals
            first | (rw [h] at HS1 HC; replace HS := HS1; clear HS1) | clear HS1
            refine HS.out.mono ?_
            rintro e W3 ⟨rfl, hk⟩
            obtain ⟨v', W4, hr, hk4, hC⟩ := HC.out W3 hk
            have HKz := hide hk4
            have HCC := hide hC
            clear hk hk4 hC
            go_wp2_with (at_builtin; refine wpList_append_eq rfl _ _ 36 rfl _ _ _ _ rfl rfl hr ?_)
            refine HCC.out.mono ?_
            rintro e W5 ⟨rfl, hk⟩
            have HKy := hide (HKz.out.then hk)
            clear hk HCC HC hr
            have HAw := hide (awake_l W5)
            go_wp2_with fail
            refine HAw.out.mono ?_
            rintro e W6 ⟨rfl, hk⟩
            go_wp2_with fail
            go_ret
            exact ⟨rfl, HKy.out.then hk⟩
      · go_wp2_with fail
        obtain ⟨w5, hw5⟩ : ∃ W, w4.setCell ⟨g4, k, none⟩ (.int .i64 yx) = W := ⟨_, rfl⟩
        have hb5 := HB4.out.store k (.int .i64 yx)
        rw [List.set_append_left _ _ (by rw [List.length_map, HP.out.len]; exact hki), ← List.map_set, hw5] at hb5
        have Ib : Hid (Ints w5 (some ⟨g4, 0, none⟩) i (p.set k yx)) := ints_of_front hb5 (by rw [List.length_set, HP.out.len]) (by omega)
        have hks := (Keeps.refl (fun b => b = g4) w4).set (b := g4) (i := k) (.inl rfl) (.int .i64 yx)
        rw [hw5] at hks
        have Ip : Hid (Ints w5 (some ⟨g, 0, none⟩) i p) := I4.out.keeps hks (fun b o hbe => by cases hbe; have := Hg4.out.2.2; omega)
        have HR : Hid (Blk w5 B (List.replicate i (Value.slice none 0 0)) 22) := HR4.out.keeps hks (by have := Hg4.out.2.1; omega)
        have HK := hide (HK4.out.set (b := g4) (i := k) (.inr Hg4.out.1) (.int .i64 yx))
        rw [hw5] at HK
        try rw [hw5]
        have Hbad : Hid (rightB (p.set k yx) = false) := bad_not HP.out hki (by have := HYx.out.1; omega)
        have Hgb : Hid (Good (p.set k yx)) := fun x hx => by
          rcases List.mem_or_eq_of_mem_set hx with h | rfl
          · exact HGp.out x h
          · exact HYx.out.2
        obtain ⟨bd, hbd⟩ : ∃ bd, p.set k yx = bd := ⟨_, rfl⟩
        rw [hbd] at Ib Hbad Hgb
        clear hbd hb5 hks hw5 c4 f4 l4 HB4 I4 HR4 HK4
        have C := hide (countE_no (cap := cap4) Ib.out Hgb.out Hbad.out)
        go_wp2_with fail
        refine C.out.mono ?_
        rintro e w6 ⟨rfl, hk⟩
        replace Ib := hide (Ib.out.non hk)
        replace Ip := hide (Ip.out.non hk)
        replace HR := hide (HR.out.non hk)
        replace HK := hide (HK.out.then hk)
        clear hk C
        have C := hide (members_no (some ⟨g4, 0, none⟩) i cap4 bd w6 Ib.out Hgb.out Hbad.out)
        go_wp2_with fail
        refine C.out.mono ?_
        rintro e w7 ⟨rfl, hk⟩
        replace Ib := hide (Ib.out.non hk)
        replace Ip := hide (Ip.out.non hk)
        replace HR := hide (HR.out.non hk)
        replace HK := hide (HK.out.then hk)
        clear hk C
        have C := hide (meet_no (some ⟨g4, 0, none⟩) (some ⟨g, 0, none⟩) i cap4 i cap bd p w7 Ib.out Ip.out Hgb.out HGp.out 60 (bothE_1 Hbad.out) (by decide))
        go_wp2_with fail
        refine C.out.mono ?_
        rintro e w8 ⟨rfl, hk⟩
        replace Ib := hide (Ib.out.non hk)
        replace Ip := hide (Ip.out.non hk)
        replace HR := hide (HR.out.non hk)
        replace HK := hide (HK.out.then hk)
        clear hk C
        have C := hide (join_no (some ⟨g, 0, none⟩) (some ⟨g4, 0, none⟩) i cap i cap4 p bd w8 Ip.out Ib.out HGp.out Hgb.out 60 (bothE_2 Hbad.out) (by decide))
        go_wp2_with fail
        refine C.out.mono ?_
        rintro e w9 ⟨rfl, hk⟩
        replace Ib := hide (Ib.out.non hk)
        replace Ip := hide (Ip.out.non hk)
        replace HR := hide (HR.out.non hk)
        replace HK := hide (HK.out.then hk)
        clear hk C
        have C := hide (finer_no (some ⟨g, 0, none⟩) (some ⟨g4, 0, none⟩) i cap i cap4 p bd w9 Ip.out Ib.out HGp.out Hgb.out 60 (bothE_2 Hbad.out) (by decide))
        go_wp2_with fail
        refine C.out.mono ?_
        rintro e w10 ⟨rfl, hk⟩
        replace Ib := hide (Ib.out.non hk)
        replace Ip := hide (Ip.out.non hk)
        replace HR := hide (HR.out.non hk)
        replace HK := hide (HK.out.then hk)
        clear hk C
        have C := hide (refine_no (some ⟨g4, 0, none⟩) none i cap4 0 0 bd [] w10 Ib.out ⟨rfl, by omega, .inl rfl⟩ Hgb.out 60 (wrongE_60 Hbad.out) (by decide))
        go_wp2_with fail
        refine C.out.mono ?_
        rintro e w11 ⟨rfl, hk⟩
        replace Ib := hide (Ib.out.non hk)
        replace Ip := hide (Ip.out.non hk)
        replace HR := hide (HR.out.non hk)
        replace HK := hide (HK.out.then hk)
        clear hk C
        have C := hide (quotient_no (some ⟨g4, 0, none⟩) none i cap4 0 0 bd [] w11 Ib.out ⟨rfl, by omega, .inl rfl⟩ Hgb.out 60 (wrongE_60 Hbad.out) (by decide))
        go_wp2_with fail
        refine C.out.mono ?_
        rintro e w12 ⟨rfl, hk⟩
        replace Ib := hide (Ib.out.non hk)
        replace Ip := hide (Ip.out.non hk)
        replace HR := hide (HR.out.non hk)
        replace HK := hide (HK.out.then hk)
        clear hk C
        have C := hide (right_at (some ⟨g4, 0, none⟩) i cap4 bd false w12 Ib.out Hgb.out Hbad.out)
        go_wp2_with fail
        refine C.out.mono ?_
        rintro e w13 ⟨rfl, hk⟩
        replace Ib := hide (Ib.out.non hk)
        replace Ip := hide (Ip.out.non hk)
        replace HR := hide (HR.out.non hk)
        replace HK := hide (HK.out.then hk)
        clear hk C
        clear Ib Hbad Hgb
        obtain ⟨j, hj⟩ : ∃ j, i = j + 1 := ⟨i - 1, by omega⟩
        have s1 : ((i : Int) - 1).toNat = j := by omega
        have s2 : (0 : Int) ≤ (i : Int) - 1 := by omega
        have s3 : (i : Int) - 1 ≤ (cap : Int) := by omega
        have s4 : j ≤ cap := by omega
        have s5 : (i : Int) - 1 = (j : Int) := by omega
        have HPj : Hid (Pt j (p.take j)) := take_pt HP.out (by omega)
        have HJ := hide (rightB_iff.2 ⟨by rw [HPj.out.len]; omega, HPj.out.isP⟩)
        have HGj : Hid (Good (p.take j)) := pt_good HPj.out (by omega)
        have HLj : Hid (p.length ≠ (p.take j).length) := by show _ ≠ _; rw [HP.out.len, HPj.out.len]; omega
        have Hne : Hid (i ≠ j) := by show _ ≠ _; omega
        have Ij := hide (ints_pre Ip.out (show j ≤ i by omega))
        clear hj
        have C := hide (meet_no (some ⟨g, 0, none⟩) (some ⟨g, 0, none⟩) i cap j cap p (p.take j) w13 Ip.out Ij.out HGp.out HGj.out 2 (bothE_3 HRt.out HJ.out HLj.out) (by decide))
        go_wp2_with fail
        refine C.out.mono ?_
        rintro e w14 ⟨rfl, hk⟩
        replace Ip := hide (Ip.out.non hk)
        replace HR := hide (HR.out.non hk)
        replace Ij := hide (Ij.out.non hk)
        replace HK := hide (HK.out.then hk)
        clear hk C
        have C := hide (finer_no (some ⟨g, 0, none⟩) (some ⟨g, 0, none⟩) j cap i cap (p.take j) p w14 Ij.out Ip.out HGj.out HGp.out 2 (bothE_3 HJ.out HRt.out (Ne.symm HLj.out)) (by decide))
        go_wp2_with fail
        refine C.out.mono ?_
        rintro e w15 ⟨rfl, hk⟩
        replace Ip := hide (Ip.out.non hk)
        replace HR := hide (HR.out.non hk)
        replace Ij := hide (Ij.out.non hk)
        replace HK := hide (HK.out.then hk)
        clear hk C
        clear Ij HGj HLj HJ HPj
        have cB : w15.cell? ⟨B, k, none⟩ = some (.slice none 0 0) := by
          rw [HR.out.cell, List.getElem?_replicate, if_pos hki]
        have fB := HR.out.free k none
        have lB := HR.out.lt
        rcases hp3 with e3 | e3
        · have cA : (w15.alloc (.cells #[.int .i64 ym, .int .i64 yx] 3)).cell? ⟨w15.heap.size, 0, none⟩ = some (.int .i64 ym) := (Blk.new w15 [.int .i64 ym, .int .i64 yx] 3).cell 0
          have hA := ((Keeps.refl Non w15).alloc (.cells #[.int .i64 ym, .int .i64 yx] 3)).alloc (.cells #[.int .i64 0, .int .i64 ym] 3)
          have cB2 : ((w15.alloc (.cells #[.int .i64 ym, .int .i64 yx] 3)).alloc (.cells #[.int .i64 0, .int .i64 ym] 3)).cell? ⟨B, k, none⟩ = some (.slice none 0 0) := by
            rw [(HR.out.non hA).cell, List.getElem?_replicate, if_pos hki]
          have fB2 := (HR.out.non hA).free k none
          have lB2 := (HR.out.non hA).lt
          have bB : Blk (((w15.setCell ⟨B, k, none⟩ (.slice (some ⟨w15.heap.size + 1, 0, none⟩) 2 2)).alloc (.cells #[.int .i64 ym, .int .i64 yx] 3)).alloc (.cells #[.int .i64 0, .int .i64 ym] 3)) B _ 22 := ((HR.out.store k (.slice (some ⟨w15.heap.size + 1, 0, none⟩) 2 2)).alloc (.cells #[.int .i64 ym, .int .i64 yx] 3)).alloc (.cells #[.int .i64 0, .int .i64 ym] 3)
          have bN2 : Blk (((w15.setCell ⟨B, k, none⟩ (.slice (some ⟨w15.heap.size + 1, 0, none⟩) 2 2)).alloc (.cells #[.int .i64 ym, .int .i64 yx] 3)).alloc (.cells #[.int .i64 0, .int .i64 ym] 3)) (w15.heap.size + 1) [.int .i64 0, .int .i64 ym] 3 := Blk.newAt ((w15.setCell ⟨B, k, none⟩ (.slice (some ⟨w15.heap.size + 1, 0, none⟩) 2 2)).alloc (.cells #[.int .i64 ym, .int .i64 yx] 3)) [.int .i64 0, .int .i64 ym] 3 (by simp [World.setCell])
          have Rn := hide (rows_put1 bB bN2 hki (by omega))
          have hB4 := ((((Keeps.refl (fun b => b = B) w15).set (b := B) (i := k) (.inl rfl) (.slice (some ⟨w15.heap.size + 1, 0, none⟩) 2 2)).alloc (.cells #[.int .i64 ym, .int .i64 yx] 3)).alloc (.cells #[.int .i64 0, .int .i64 ym] 3))
          have Ip2 := hide (Ip.out.keeps hB4 (fun b o hbe => by cases hbe; exact Ne.symm HgB2.out))
          have HKn := hide (((HK.out.set (b := B) (i := k) (.inr HBw.out) (.slice (some ⟨w15.heap.size + 1, 0, none⟩) 2 2)).alloc (.cells #[.int .i64 ym, .int .i64 yx] 3)).alloc (.cells #[.int .i64 0, .int .i64 ym] 3))
          have HBn := hide bB
          have HNn := hide bN2
          have HNB : Hid (B ≠ w15.heap.size + 1) := by have := HR.out.lt; show _ ≠ _; omega
          have HWr := hide (wrongE_61 HRt.out (by rw [HP.out.len]; exact row_not hki (v := ym) (by have := HYm.out.1; omega)))
          clear hA bB bN2 hB4
          go_wp2_with fail
          obtain ⟨W, hW⟩ : ∃ W, (((w15.setCell ⟨B, k, none⟩ (.slice (some ⟨w15.heap.size + 1, 0, none⟩) 2 2)).alloc (.cells #[.int .i64 ym, .int .i64 yx] 3)).alloc (.cells #[.int .i64 0, .int .i64 ym] 3)) = W := ⟨_, rfl⟩
          rw [hW] at Rn Ip2 HKn HBn HNn
          try rw [hW]
          obtain ⟨D, hD⟩ : ∃ D, w15.heap.size + 1 = D := ⟨_, rfl⟩
          rw [hD] at HBn HNn HNB
          have HDw : Hid (w.heap.size ≤ D) := by show _ ≤ _; have := HK.out.size; omega
          clear hW hD cA cB2 fB2 lB2 cB fB lB Ip HR HK
          refine (refine_no (some ⟨g, 0, none⟩) (some ⟨B, 0, none⟩) i cap i i p _ W Ip2.out Rn.out HGp.out 61 HWr.out (by decide)).mono ?_
          rintro e W2 ⟨rfl, hk⟩
          replace Ip2 := hide (Ip2.out.non hk)
          replace Rn := hide (Rn.out.non hk)
          replace HBn := hide (HBn.out.non hk)
          replace HNn := hide (HNn.out.non hk)
          replace HKn := hide (HKn.out.then hk)
          clear hk
          have HS := hide (stable_no (some ⟨g, 0, none⟩) (some ⟨B, 1, none⟩) i cap (i - 1) (i - 1) p (((List.replicate i ([] : List Int)).set k [0, ym]).drop 1) W2 Ip2.out (rows_drop Rn.out (by omega)) HGp.out 61 (wrongE_61 HRt.out (fun h => by have := h.1; simp [HP.out.len] at this; omega)) (by decide))
          have HS1 := hide (stable_no (some ⟨g, 0, none⟩) (some ⟨B, 0, none⟩) i cap 0 0 p [] W2 Ip2.out ⟨rfl, by omega, .inl rfl⟩ HGp.out 61 (wrongE_61 HRt.out (fun h => by have := h.1; simp [HP.out.len] at this; omega)) (by decide))
          have HPl : Hid (p.length = i) := HP.out.len
          have HC : Hid (∀ W3, Keeps Non W2 W3 → ∃ v' W4, (Builtin.append_ #[36, 36] 36 #[.slice (some ⟨B, 0, none⟩) i i, .slice (some ⟨W3.heap.size, 0, none⟩) 1 1]).run Try.prog (W3.alloc (.cells #[.slice none 0 0] 22)) = .ok v' W4 ∧ Keeps Non w W4 ∧ Calls Try.prog 27 #[.slice (some ⟨g, 0, none⟩) i cap, v'] W4 fun e w' => e = .returned (.tuple #[.slice none 0 0, .int .i64 0, .int .i64 61]) ∧ Keeps Non W4 w') := fun W3 hk => next_more HBn.out HNn.out Ip2.out HKn.out hk hki (by omega) HBw.out HNB.out (by have := HDw.out; exact this) HGp.out HRt.out HPl.out
          clear HBn HNn Rn HWr HPl
          go_wp2_with fail
          all_goals
            first | (rw [h] at HS1 HC; replace HS := HS1; clear HS1) | clear HS1
            refine HS.out.mono ?_
            rintro e W3 ⟨rfl, hk⟩
            obtain ⟨v', W4, hr, hk4, hC⟩ := HC.out W3 hk
            have HKz := hide hk4
            have HCC := hide hC
            clear hk hk4 hC
            go_wp2_with (at_builtin; refine wpList_append_eq rfl _ _ 36 rfl _ _ _ _ rfl rfl hr ?_)
            refine HCC.out.mono ?_
            rintro e W5 ⟨rfl, hk⟩
            have HKy := hide (HKz.out.then hk)
            clear hk HCC HC hr
            have HAw := hide (awake_l W5)
            go_wp2_with fail
            refine HAw.out.mono ?_
            rintro e W6 ⟨rfl, hk⟩
            go_wp2_with fail
            go_ret
            exact ⟨rfl, HKy.out.then hk⟩
        · have cA : (w15.alloc (.cells #[.int .i64 ym, .int .i64 yx] 3)).cell? ⟨w15.heap.size, 1, none⟩ = some (.int .i64 yx) := (Blk.new w15 [.int .i64 ym, .int .i64 yx] 3).cell 1
          have hA := ((Keeps.refl Non w15).alloc (.cells #[.int .i64 ym, .int .i64 yx] 3)).alloc (.cells #[.int .i64 0, .int .i64 yx] 3)
          have cB2 : ((w15.alloc (.cells #[.int .i64 ym, .int .i64 yx] 3)).alloc (.cells #[.int .i64 0, .int .i64 yx] 3)).cell? ⟨B, k, none⟩ = some (.slice none 0 0) := by
            rw [(HR.out.non hA).cell, List.getElem?_replicate, if_pos hki]
          have fB2 := (HR.out.non hA).free k none
          have lB2 := (HR.out.non hA).lt
          have bB : Blk (((w15.setCell ⟨B, k, none⟩ (.slice (some ⟨w15.heap.size + 1, 0, none⟩) 2 2)).alloc (.cells #[.int .i64 ym, .int .i64 yx] 3)).alloc (.cells #[.int .i64 0, .int .i64 yx] 3)) B _ 22 := ((HR.out.store k (.slice (some ⟨w15.heap.size + 1, 0, none⟩) 2 2)).alloc (.cells #[.int .i64 ym, .int .i64 yx] 3)).alloc (.cells #[.int .i64 0, .int .i64 yx] 3)
          have bN2 : Blk (((w15.setCell ⟨B, k, none⟩ (.slice (some ⟨w15.heap.size + 1, 0, none⟩) 2 2)).alloc (.cells #[.int .i64 ym, .int .i64 yx] 3)).alloc (.cells #[.int .i64 0, .int .i64 yx] 3)) (w15.heap.size + 1) [.int .i64 0, .int .i64 yx] 3 := Blk.newAt ((w15.setCell ⟨B, k, none⟩ (.slice (some ⟨w15.heap.size + 1, 0, none⟩) 2 2)).alloc (.cells #[.int .i64 ym, .int .i64 yx] 3)) [.int .i64 0, .int .i64 yx] 3 (by simp [World.setCell])
          have Rn := hide (rows_put1 bB bN2 hki (by omega))
          have hB4 := ((((Keeps.refl (fun b => b = B) w15).set (b := B) (i := k) (.inl rfl) (.slice (some ⟨w15.heap.size + 1, 0, none⟩) 2 2)).alloc (.cells #[.int .i64 ym, .int .i64 yx] 3)).alloc (.cells #[.int .i64 0, .int .i64 yx] 3))
          have Ip2 := hide (Ip.out.keeps hB4 (fun b o hbe => by cases hbe; exact Ne.symm HgB2.out))
          have HKn := hide (((HK.out.set (b := B) (i := k) (.inr HBw.out) (.slice (some ⟨w15.heap.size + 1, 0, none⟩) 2 2)).alloc (.cells #[.int .i64 ym, .int .i64 yx] 3)).alloc (.cells #[.int .i64 0, .int .i64 yx] 3))
          have HBn := hide bB
          have HNn := hide bN2
          have HNB : Hid (B ≠ w15.heap.size + 1) := by have := HR.out.lt; show _ ≠ _; omega
          have HWr := hide (wrongE_61 HRt.out (by rw [HP.out.len]; exact row_not hki (v := yx) (by have := HYx.out.1; omega)))
          clear hA bB bN2 hB4
          go_wp2_with fail
          obtain ⟨W, hW⟩ : ∃ W, (((w15.setCell ⟨B, k, none⟩ (.slice (some ⟨w15.heap.size + 1, 0, none⟩) 2 2)).alloc (.cells #[.int .i64 ym, .int .i64 yx] 3)).alloc (.cells #[.int .i64 0, .int .i64 yx] 3)) = W := ⟨_, rfl⟩
          rw [hW] at Rn Ip2 HKn HBn HNn
          try rw [hW]
          obtain ⟨D, hD⟩ : ∃ D, w15.heap.size + 1 = D := ⟨_, rfl⟩
          rw [hD] at HBn HNn HNB
          have HDw : Hid (w.heap.size ≤ D) := by show _ ≤ _; have := HK.out.size; omega
          clear hW hD cA cB2 fB2 lB2 cB fB lB Ip HR HK
          refine (refine_no (some ⟨g, 0, none⟩) (some ⟨B, 0, none⟩) i cap i i p _ W Ip2.out Rn.out HGp.out 61 HWr.out (by decide)).mono ?_
          rintro e W2 ⟨rfl, hk⟩
          replace Ip2 := hide (Ip2.out.non hk)
          replace Rn := hide (Rn.out.non hk)
          replace HBn := hide (HBn.out.non hk)
          replace HNn := hide (HNn.out.non hk)
          replace HKn := hide (HKn.out.then hk)
          clear hk
          have HS := hide (stable_no (some ⟨g, 0, none⟩) (some ⟨B, 1, none⟩) i cap (i - 1) (i - 1) p (((List.replicate i ([] : List Int)).set k [0, yx]).drop 1) W2 Ip2.out (rows_drop Rn.out (by omega)) HGp.out 61 (wrongE_61 HRt.out (fun h => by have := h.1; simp [HP.out.len] at this; omega)) (by decide))
          have HS1 := hide (stable_no (some ⟨g, 0, none⟩) (some ⟨B, 0, none⟩) i cap 0 0 p [] W2 Ip2.out ⟨rfl, by omega, .inl rfl⟩ HGp.out 61 (wrongE_61 HRt.out (fun h => by have := h.1; simp [HP.out.len] at this; omega)) (by decide))
          have HPl : Hid (p.length = i) := HP.out.len
          have HC : Hid (∀ W3, Keeps Non W2 W3 → ∃ v' W4, (Builtin.append_ #[36, 36] 36 #[.slice (some ⟨B, 0, none⟩) i i, .slice (some ⟨W3.heap.size, 0, none⟩) 1 1]).run Try.prog (W3.alloc (.cells #[.slice none 0 0] 22)) = .ok v' W4 ∧ Keeps Non w W4 ∧ Calls Try.prog 27 #[.slice (some ⟨g, 0, none⟩) i cap, v'] W4 fun e w' => e = .returned (.tuple #[.slice none 0 0, .int .i64 0, .int .i64 61]) ∧ Keeps Non W4 w') := fun W3 hk => next_more HBn.out HNn.out Ip2.out HKn.out hk hki (by omega) HBw.out HNB.out (by have := HDw.out; exact this) HGp.out HRt.out HPl.out
          clear HBn HNn Rn HWr HPl
          go_wp2_with fail
          all_goals
            first | (rw [h] at HS1 HC; replace HS := HS1; clear HS1) | clear HS1
            refine HS.out.mono ?_
            rintro e W3 ⟨rfl, hk⟩
            obtain ⟨v', W4, hr, hk4, hC⟩ := HC.out W3 hk
            have HKz := hide hk4
            have HCC := hide hC
            clear hk hk4 hC
            go_wp2_with (at_builtin; refine wpList_append_eq rfl _ _ 36 rfl _ _ _ _ rfl rfl hr ?_)
            refine HCC.out.mono ?_
            rintro e W5 ⟨rfl, hk⟩
            have HKy := hide (HKz.out.then hk)
            clear hk HCC HC hr
            have HAw := hide (awake_l W5)
            go_wp2_with fail
            refine HAw.out.mono ?_
            rintro e W6 ⟨rfl, hk⟩
            go_wp2_with fail
            go_ret
            exact ⟨rfl, HKy.out.then hk⟩
end Go.Proofs.Ytkcbahfmdokalaa
