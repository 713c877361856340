/-
  Layer 7's waiting line: pairs in a row that is taken from at its head, and put to at its end; the closure that adds. No condition.
-/
import Derived.Test.YthpdflpkkiabhaaIt
import Derived.Test.YthpdflpkkiabhaaGa
import Derived.Test.YthpdflpkkiabhaaBb
namespace Go.Proofs.Ythpdflpkkiabhaa
open Go.RowKit
attribute [local go_sem] onto_cell onto_frozen
set_option linter.unusedVariables false
def cellsP : List (Int × Int) → List Value
  | [] => []
  | x :: r => .int .i64 x.1 :: .int .i64 x.2 :: cellsP r
theorem cellsP_length : ∀ (l : List (Int × Int)), (cellsP l).length = 2 * l.length
  | [] => rfl
  | x :: r => by simp only [cellsP, List.length_cons, cellsP_length r]; omega
theorem cellsP_append : ∀ (l m : List (Int × Int)), cellsP (l ++ m) = cellsP l ++ cellsP m
  | [], _ => rfl
  | x :: r, m => by simp only [List.cons_append, cellsP, cellsP_append r m]
theorem cellsP_one : ∀ (l : List (Int × Int)), ∀ u ∈ cellsP l, u.oneCell' = true
  | [], u, h => by simp [cellsP] at h
  | x :: r, u, h => by
    simp only [cellsP, List.mem_cons] at h
    rcases h with rfl | rfl | h
    · rfl
    · rfl
    · exact cellsP_one r u h
/-- The slice v holds the pairs zs. -/
def Que (w : World) (v : Value) (zs : List (Int × Int)) : Prop :=
  (v = .slice none 0 0 ∧ zs = []) ∨ ∃ g o cap cur, v = .slice (some ⟨g, o, none⟩) zs.length cap ∧ w.heap[g]? = some (.cells cur 83 (0, 0)) ∧ zs.length ≤ cap ∧ cap ≤ 9223372036854775807 ∧ o + 2 * cap ≤ cur.size ∧ (cur.toList.drop o).take (2 * zs.length) = cellsP zs
theorem Que.of_eq {w w' : World} {v : Value} {zs : List (Int × Int)} (h : Que w v zs) (e : ∀ g, v.ownBlock = some g → g < w.heap.size → w'.heap[g]? = w.heap[g]?) : Que w' v zs := by
  rcases h with h | ⟨g, o, cap, cur, rfl, h1, r⟩
  · exact .inl h
  · exact .inr ⟨g, o, cap, cur, rfl, (e g rfl (Array.getElem?_eq_some_iff.1 h1).1).trans h1, r⟩
theorem Que.lt {w : World} {v : Value} {zs : List (Int × Int)} (h : Que w v zs) : ∀ g, v.ownBlock = some g → g < w.heap.size := by
  rcases h with ⟨rfl, _⟩ | ⟨g, o, cap, cur, rfl, h1, r⟩
  · intro g hg; cases hg
  · intro g' hg; cases hg; exact (Array.getElem?_eq_some_iff.1 h1).1
theorem Que.slice {w : World} {v : Value} {zs : List (Int × Int)} (h : Que w v zs) : ∃ a c, v = .slice a zs.length c := by
  rcases h with ⟨rfl, rfl⟩ | ⟨g, o, cap, cur, rfl, r⟩
  · exact ⟨none, 0, rfl⟩
  · exact ⟨_, cap, rfl⟩
/-- What is of another type is no block of the line's. -/
theorem Que.ne {w : World} {v : Value} {zs : List (Int × Int)} (h : Que w v zs) {b : Nat} {xs : List Value} {t : TypeId} (hb : Blk w b xs t) (ht : t ≠ 83) : ∀ g, v.ownBlock = some g → g ≠ b := by
  rcases h with ⟨rfl, _⟩ | ⟨g, o, cap, cur, rfl, h1, r⟩
  · intro g hg; cases hg
  · intro g' hg; cases hg
    rintro rfl
    unfold Blk at hb
    rw [hb] at h1
    cases h1
    exact ht rfl
theorem info83 : (Try.prog.info? 83).map (fun i => (i.zero, i.size, i.bytes)) = some (some (.agg #[.int .i64 0, .int .i64 0]), 2, 16) := by kernel_rfl
theorem info83_parts : ∃ i, Try.prog.info? 83 = some i ∧ i.zero = some (.agg #[.int .i64 0, .int .i64 0]) ∧ i.size = 2 ∧ i.bytes = 16 := by
  have h := info83
  cases hq : Try.prog.info? 83 with
  | none => rw [hq] at h; simp at h
  | some i =>
    rw [hq] at h
    simp only [Option.map_some, Option.some.injEq, Prod.mk.injEq] at h
    exact ⟨i, rfl, h.1, h.2.1, h.2.2⟩
theorem run_append_off {P : Program} (w : World) (t ty e : TypeId) (i : TypeInfo) (ht : P.underlying t = some (.slice e)) (hi : P.info? e = some i)
    (g o sLen sCap : Nat) (cur : Array Value) (hg : w.heap[g]? = some (.cells cur e (0, 0)))
    (a : Addr) (m c : Nat) (news : List Value) (hl : news.length = m * i.size) (hnews : ∀ j u, news[j]? = some u → w.cell? (a.add j) = some u) (h1 : ∀ u ∈ news, u.oneCell' = true)
    (hroom : sLen + m ≤ sCap) (hfit : o + sLen * i.size + news.length ≤ cur.size) :
    (Builtin.append_ #[t, t] ty #[.slice (some ⟨g, o, none⟩) sLen sCap, .slice (some a) m c]).run P w =
      .ok (.slice (some ⟨g, o, none⟩) (sLen + m) sCap) (w.setRow g (cur.toList.take (o + sLen * i.size) ++ news ++ cur.toList.drop (o + sLen * i.size + news.length)).toArray) := by
  have hf := run_firstCells_some (P := P) w i.size m a m c news hl hnews
  have hst := run_storeCells_at P g (o + sLen * i.size) e news 0 cur w hg (by simpa using hfit) h1
  simp only [Nat.add_zero] at hst
  simp [Builtin.append_, run_underlying ht, sizeOf, typeInfo, hi, Builtin.lenOf, hroom, hf, Addr.add_lit, hst]
theorem wpList_append_eq {P : Program} {w : World} {ops : Array Oper} {rest : List Oper} {o : Oper} {a : Act} {Q : Exit → Act → World → Prop} (hgd : o.guard = none) (s x : Operand) (t : TypeId)
    (ho : o.op = .call { callee := .builtin .append, args := #[s, x], argTypes := #[t, t] }) (v1 v2 v' : Value) (w' : World) (hs : a.eval s = v1) (hx : a.eval x = v2)
    (hr : (Builtin.append_ #[t, t] o.type #[v1, v2]).run P w = .ok v' w') (h : wpList P ops Q rest (a.put o.dst v') w') : wpList P ops Q (o :: rest) a w := by
  refine wpList_plain hgd fun K hK => ?_
  unfold Oper.wp execOp
  simp only [ho, resolve, invoke, builtin, Sem.run_bind, Sem.run_pure, Result.andThen_ok, List.map_toArray, List.map_cons, List.map_nil, hs, hx, hr]
  exact hK _ _ h
theorem setRow_keeps (w : World) (g : Nat) (xs : Array Value) : Keeps (fun k => k = g) w (w.setRow g xs) :=
  ⟨rfl, rfl, rfl, by simp [World.setRow], fun k hk hs => setRow_other w g k _ hs⟩
/-- One more pair at the end. -/
theorem que_append {w : World} {v : Value} {zs : List (Int × Int)} (h : Que w v zs) (hz : zs.length ≤ 1000000) (x : Int × Int) {nb : Nat} (hn : Blk w nb [.int .i64 x.1, .int .i64 x.2] 83) (ty : TypeId) :
    ∃ v' w', (Builtin.append_ #[82, 82] ty #[v, .slice (some ⟨nb, 0, none⟩) 1 1]).run Try.prog w = .ok v' w' ∧ Que w' v' (zs ++ [x]) ∧ (v'.ownBlock = v.ownBlock ∨ v'.ownBlock = some w.heap.size) ∧ Keeps (fun k => v.ownBlock = some k) w w' := by
  obtain ⟨i, hi, hz0, hz1, hz2⟩ := info83_parts
  have hnews : ∀ j u, [Value.int .i64 x.1, .int .i64 x.2][j]? = some u → w.cell? ((⟨nb, 0, none⟩ : Addr).add j) = some u := fun j u hj => by
    rw [Addr.add_lit, Nat.zero_add, hn.cell]
    exact hj
  rcases h with ⟨rfl, rfl⟩ | ⟨g, o, cap, cur, rfl, hg, hzc, hcm, hsz, htk⟩
  · have hr := run_append_nil (P := Try.prog) w 82 ty 83 i _ Try.underlying82 hi hz0 ⟨nb, 0, none⟩ 1 1 [.int .i64 x.1, .int .i64 x.2] (by rw [hz1]; rfl) hnews (by omega) (by omega) (by rw [hz2]; omega)
    refine ⟨_, _, hr, .inr ⟨w.heap.size, 0, _, _, rfl, heap_alloc_new w.drew _, grownCap_ge w 1 0 83, ?_, ?_, ?_⟩, .inr rfl, ⟨rfl, rfl, rfl, by simp, fun k hk _ => Below.heap_alloc w.drew _ _ hk⟩⟩
    · have := grownCap_le_maxLen w 1 0 83 (by unfold maxLen; omega)
      unfold maxLen at this
      omega
    · have := grownCap_ge w 1 0 83
      simp only [Array.size_append, List.size_toArray, size_zeroCells, List.length_cons, List.length_nil]
      show 0 + 2 * _ ≤ _
      simp only [Value.cells, List.size_toArray, List.length_cons, List.length_nil]
      omega
    · simp [cellsP]
  · by_cases hroom : zs.length + 1 ≤ cap
    · have hr := run_append_off (P := Try.prog) w 82 ty 83 i Try.underlying82 hi g o zs.length cap cur hg ⟨nb, 0, none⟩ 1 1 [.int .i64 x.1, .int .i64 x.2] (by rw [hz1]; rfl) hnews (by simp [Value.oneCell']) hroom (by rw [hz1]; simp; omega)
      rw [hz1] at hr
      refine ⟨_, _, hr, .inr ⟨g, o, cap, _, by simp, setRow_heap w g cur _ 83 _ hg, by simpa using hroom, hcm, ?_, ?_⟩, .inl rfl, (setRow_keeps w g _).weak (fun k _ h => by rw [h]; rfl)⟩
      · simp only [List.size_toArray, List.length_append, List.length_take, List.length_drop, Array.length_toList, List.length_cons, List.length_nil]
        omega
      · have hcl : cur.toList.length = cur.size := rfl
        have e1 : (cur.toList.take (o + zs.length * 2) ++ [Value.int .i64 x.1, .int .i64 x.2] ++ cur.toList.drop (o + zs.length * 2 + 2)).drop o = cellsP zs ++ ([Value.int .i64 x.1, .int .i64 x.2] ++ cur.toList.drop (o + zs.length * 2 + 2)) := by
          have e9 : o + zs.length * 2 - o = 2 * zs.length := by omega
          rw [List.append_assoc, List.drop_append_of_le_length (by rw [List.length_take]; omega), List.drop_take, e9, htk]
        have e0 : o + zs.length * 2 + [Value.int .i64 x.1, .int .i64 x.2].length = o + zs.length * 2 + 2 := rfl
        rw [List.toList_toArray, e0, e1, cellsP_append, ← List.append_assoc]
        have e2 : 2 * (zs ++ [x]).length = (cellsP zs ++ [Value.int .i64 x.1, .int .i64 x.2]).length := by
          simp only [List.length_append, cellsP_length, List.length_cons, List.length_nil]
          omega
        rw [e2, List.take_left]
        rfl
    · have holds : ∀ j u, (cellsP zs)[j]? = some u → w.cell? ((⟨g, o, none⟩ : Addr).add j) = some u := fun j u hj => by
        rw [Addr.add_lit, cell_of_row w g (o + j) cur 83 (0, 0) hg]
        rw [← htk, List.getElem?_take] at hj
        split at hj
        · rw [List.getElem?_drop] at hj
          simpa using hj
        · cases hj
      have hr := run_append_grow (P := Try.prog) w 82 ty 83 i _ Try.underlying82 hi hz0 ⟨g, o, none⟩ zs.length cap (cellsP zs) (by rw [cellsP_length, hz1]; omega) holds ⟨nb, 0, none⟩ 1 1 [.int .i64 x.1, .int .i64 x.2] (by rw [hz1]; rfl) hnews (by omega) (by omega) (growslice_fits (by omega) (by rw [hz2]; omega))
      refine ⟨_, _, hr, .inr ⟨w.heap.size, 0, _, _, by rw [List.length_append]; rfl, heap_alloc_new w.drew _, by simpa using grownCap_ge w (zs.length + 1) cap 83, ?_, ?_, ?_⟩, .inr rfl, ⟨rfl, rfl, rfl, by simp, fun k hk _ => Below.heap_alloc w.drew _ _ hk⟩⟩
      · have := grownCap_le_maxLen w (zs.length + 1) cap 83 (by unfold maxLen; omega)
        unfold maxLen at this
        omega
      · have := grownCap_ge w (zs.length + 1) cap 83
        simp only [Array.size_append, List.size_toArray, size_zeroCells, List.length_cons, List.length_nil, cellsP_length]
        simp only [Value.cells, List.size_toArray, List.length_cons, List.length_nil]
        omega
      · rw [List.drop_zero]
        simp only [Array.toList_append, List.append_assoc]
        have e2 : 2 * (zs ++ [x]).length = (cellsP (zs ++ [x])).length := (cellsP_length _).symm
        rw [e2, cellsP_append, ← List.append_assoc]
        exact List.take_left
theorem blk_ne {w : World} {a b : Nat} {xs ys : List Value} {t u : TypeId} (h : Blk w a xs t) (k : Blk w b ys u) (htu : t ≠ u) : a ≠ b := by
  rintro rfl
  unfold Blk at h k
  rw [h] at k
  simp only [Option.some.injEq, Obj.cells.injEq] at k
  exact htu k.2.1
/-- Who was met. -/
def metL (n : Nat) (F : List (Int × Int)) : List Value := (List.range n).map fun (i : Nat) => .bool (decide ((i : Int) ∈ F.map Prod.fst))
theorem metL_at {n : Nat} (F : List (Int × Int)) {i : Nat} (h : i < n) : (metL n F)[i]? = some (.bool (decide ((i : Int) ∈ F.map Prod.fst))) := by simp [metL, h]
theorem metL_set {n : Nat} (F : List (Int × Int)) {i : Nat} (h : i < n) (p : Int) : (metL n F).set i (.bool true) = metL n (F ++ [((i : Int), p)]) := by
  apply List.ext_getElem?
  intro j
  rw [List.getElem?_set]
  by_cases hj : i = j
  · subst hj
    rw [if_pos rfl, if_pos (by simpa [metL] using h), metL_at _ h]
    simp
  · rw [if_neg hj]
    by_cases hl : j < n
    · rw [metL_at _ hl, metL_at _ hl]
      have : ¬ (j : Int) = (i : Int) := by omega
      simp [this]
    · rw [List.getElem?_eq_none (by simp [metL]; omega), List.getElem?_eq_none (by simp [metL]; omega)]
/-- What add leaves. -/
def AddP (n : Nat) (o : Int) (M Bw : Nat) (F zs : List (Int × Int)) (v : Value) (x p : Int) (w : World) (e : Ending) (w' : World) : Prop :=
  (∃ r, e = .returned r) ∧ ∃ v' zs', Blk w' M (metL n (add o F x p)) 4 ∧ Blk w' Bw [v'] 82 ∧ Que w' v' (zs ++ zs') ∧ add o F x p = F ++ zs' ∧ (v'.ownBlock = v.ownBlock ∨ ∃ g, v'.ownBlock = some g ∧ w.heap.size ≤ g) ∧ Keeps (fun k => k = M ∨ k = Bw ∨ v.ownBlock = some k) w w'
set_option maxRecDepth 100000 in
set_option maxHeartbeats 2000000 in
theorem add_l (n i : Nat) (o p : Int) (Bm M Bo Bw : Nat) (F zs : List (Int × Int)) (v : Value) (w : World) (hi : i < n) (hz : zs.length ≤ 100000)
    (hm : Blk w Bm [.slice (some ⟨M, 0, none⟩) n n] 64) (hM : Blk w M (metL n F) 4) (ho : Blk w Bo [.int .i64 o] 3) (hw : Blk w Bw [v] 82) (hQ : Que w v zs) :
    Calls Try.prog 66 #[.int .i64 i, .int .i64 p, .pointer (some ⟨Bm, 0, none⟩), .pointer (some ⟨Bo, 0, none⟩), .pointer (some ⟨Bw, 0, none⟩)] w (AddP n o M Bw F zs v i p w) := by
  have cm := hm.cell 0
  have co := ho.cell 0
  have cw := hw.cell 0
  simp only [List.getElem?_cons_zero] at cm co cw
  have cM := hM.cell i
  rw [metL_at F hi] at cM
  have i0 : (0 : Int) ≤ (i : Int) := by omega
  have i1 : (i : Int) < (n : Int) := by omega
  have HM := hide hM
  have HW := hide hw
  have HQ := hide hQ
  have Hm := hide hm
  by_cases hin : (i : Int) ∈ F.map Prod.fst
  · rw [decide_eq_true hin] at cM
    have HA : Hid (add o F i p = F) := by
      show _ = _
      unfold add
      rw [if_pos (.inl hin)]
    clear hm hM ho hw hQ hin
    go_enter Try.func66, Try.ntmps66
    go_wp2_with fail
    go_end0
    exact ⟨⟨_, rfl⟩, v, [], by rw [HA.out]; exact HM.out, HW.out, by rw [List.append_nil]; exact HQ.out, by rw [HA.out, List.append_nil], .inl rfl, Keeps.refl _ _⟩
  · rw [decide_eq_false hin] at cM
    by_cases hio : (i : Int) = o
    · have HA : Hid (add o F i p = F) := by
        show _ = _
        unfold add
        rw [if_pos (.inr hio)]
      have g1 : ((i : Int) != o) = false := by simpa using hio
      clear hm hM ho hw hQ hin hio
      go_enter Try.func66, Try.ntmps66
      go_wp2_with fail
      go_end0
      exact ⟨⟨_, rfl⟩, v, [], by rw [HA.out]; exact HM.out, HW.out, by rw [List.append_nil]; exact HQ.out, by rw [HA.out, List.append_nil], .inl rfl, Keeps.refl _ _⟩
    · have HA : Hid (add o F i p = F ++ [((i : Int), p)]) := by
        show _ = _
        unfold add
        rw [if_neg (fun h => h.elim hin hio)]
      have g1 : ((i : Int) != o) = true := by simpa using hio
      have lM := hM.lt
      have fM := hM.free i none
      obtain ⟨w1, hw1⟩ : ∃ w1, w.setCell ⟨M, i, none⟩ (.bool true) = w1 := ⟨_, rfl⟩
      have mM : M ≠ Bm := blk_ne hM hm (by decide)
      have mW : M ≠ Bw := blk_ne hM hw (by decide)
      have hM1 : Blk w1 M (metL n (F ++ [((i : Int), p)])) 4 := by
        rw [← hw1, ← metL_set F hi p]
        exact hM.store i (.bool true)
      have hw1' : Blk w1 Bw [v] 82 := by rw [← hw1]; exact hw.other (Ne.symm mW) _
      have hQ1 : Que w1 v zs := by
        rw [← hw1]
        exact hQ.of_eq (fun g hg hl => Below.heap_setCell _ _ _ _ (hQ.ne hM (by decide) g hg))
      have k1 : Keeps (fun k => k = M ∨ k = Bw ∨ v.ownBlock = some k) w w1 := by rw [← hw1]; exact (Keeps.refl _ _).set (.inl (.inl rfl)) _
      have s1 : w1.heap.size = w.heap.size := by rw [← hw1]; simp [World.setCell]
      have cw1 := hw1'.cell 0
      simp only [List.getElem?_cons_zero] at cw1
      obtain ⟨v', w3, hr, hQ3, hv3, hk3⟩ := que_append (w := w1.alloc (.cells #[.int .i64 i, .int .i64 p] 83)) (hQ1.of_eq (fun g hg hl => Below.heap_alloc _ _ _ hl)) (by omega) ((i : Int), p) (nb := w.heap.size) (Blk.newAt w1 [.int .i64 i, .int .i64 p] 83 s1.symm) 82
      obtain ⟨av, cv, rfl⟩ := hQ3.slice
      have hnw : v.ownBlock ≠ some Bw := fun e => hQ1.ne hw1' (by decide) _ e rfl
      have hnm : v.ownBlock ≠ some M := fun e => hQ1.ne hM1 (by decide) _ e rfl
      have hw3 : Blk w3 Bw [v] 82 := (hw1'.alloc _).keeps hk3 hnw
      have hM3 : Blk w3 M (metL n (F ++ [((i : Int), p)])) 4 := (hM1.alloc _).keeps hk3 hnm
      have lw3 := hw3.lt
      have fw3 := hw3.free 0 none
      have cw3 := hw3.cell 0
      simp only [List.getElem?_cons_zero] at cw3
      have HE : Hid (AddP n o M Bw F zs v i p w (.returned (.tuple #[])) (w3.setCell ⟨Bw, 0, none⟩ (.slice av (zs ++ [((i : Int), p)]).length cv))) := by
        refine ⟨⟨_, rfl⟩, _, [((i : Int), p)], ?_, hw3.store 0 _, ?_, HA.out, ?_, ?_⟩
        · rw [HA.out]
          exact hM3.other mW _
        · exact hQ3.of_eq (fun g hg hl => Below.heap_setCell _ _ _ _ (hQ3.ne hw3 (by decide) g hg))
        · rcases hv3 with h | h
          · exact .inl h
          · exact .inr ⟨_, h, by simp; omega⟩
        · exact ((k1.alloc _).then (hk3.weak (fun k _ h => .inr (.inr h)))).set (.inl (.inr (.inl rfl))) _
      have HR := hide hr
      clear hm hM ho hw hQ hin hio hw3 hM3 hQ3 hv3 hk3 hM1 hw1' hQ1 k1 hnw hnm mM mW hr
      go_enter Try.func66, Try.ntmps66
      go_wp2_with (at_builtin; refine wpList_append_eq rfl _ _ 82 rfl _ _ _ _ rfl rfl HR.out ?_)
      go_end0
      have h := HE.out
      rw [List.length_append] at h
      exact h
end Go.Proofs.Ythpdflpkkiabhaa
