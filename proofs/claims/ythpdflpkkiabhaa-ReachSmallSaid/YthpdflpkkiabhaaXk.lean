/-
  some: what is done with a list of points, compared with the reference. No condition.
-/
import Derived.Test.YthpdflpkkiabhaaXj
import Derived.Test.YthpdflpkkiabhaaXu
namespace Go.Proofs.Ythpdflpkkiabhaa
open Go.RowKit
attribute [local go_sem] onto_cell onto_frozen
set_option linter.unusedVariables false
theorem ent58 : Ent 58 := ent_of Try.func58 (by decide) rfl
theorem bad58 (x : Int) (a : Option Addr) (n cap b : Nat) (w : World) (h : Blk w b [.slice a n cap] 23) :
    Calls Try.prog 58 #[.int .i64 x, .pointer (some ⟨b, 0, none⟩)] w fun e w' => e = .returned (.bool (badB n x)) ∧ Keeps Non w w' := by
  have hc := h.cell 0
  simp only [List.getElem?_cons_zero] at hc
  clear h
  by_cases h0 : x < 0
  · have HB : Hid (badB n x = true) := by
      show _ = _
      unfold badB
      simp [h0]
    go_enter Try.func58, Try.ntmps58
    go_wp2_with fail
    go_ret
    exact ⟨ret_bool HB.out.symm, Keeps.refl _ _⟩
  · have hd : decide (x < 0) = false := by simpa using h0
    by_cases h1 : (n : Int) ≤ x
    · have HB : Hid (badB n x = true) := by
        show _ = _
        unfold badB
        simp [h1]
      go_enter Try.func58, Try.ntmps58
      go_wp2_with fail
      go_ret
      refine ⟨?_, Keeps.refl _ _⟩
      rw [HB.out]
      rfl
    · have HB : Hid (badB n x = false) := by
        show _ = _
        unfold badB
        simp only [h0, h1]
        rfl
      go_enter Try.func58, Try.ntmps58
      go_wp2_with fail
      go_ret
      refine ⟨?_, Keeps.refl _ _⟩
      rw [HB.out]
      rfl
/-- A slice of ints of the call's own, all of whose elements can be put anew. -/
def Zap (base : Nat) (w : World) (v : Value) : Prop := ∃ a n c, v = .slice a n c ∧ n ≤ 100000 ∧ (n = 0 ∨ ∃ g us, a = some ⟨g, 0, none⟩ ∧ base ≤ g ∧ Blk w g us 3 ∧ n ≤ us.length)
theorem Zap.of_owns {base : Nat} {w : World} {v : Value} {n : Nat} {xs : List Value} (h : w.ownsRow base 3 1 v n xs) (hn : n ≤ 100000) : Zap base w v := by
  obtain ⟨_, h2⟩ := h
  rcases h2 with ⟨rfl, h3⟩ | ⟨g, cap, cur, rfl, hg, hh, hnc, _, hsz, _⟩
  · exact ⟨none, 0, 0, rfl, by omega, .inl rfl⟩
  · refine ⟨some ⟨g, 0, none⟩, n, cap, rfl, hn, .inr ⟨g, cur.toList, rfl, hg, ?_, by rw [Array.length_toList]; omega⟩⟩
    unfold Blk
    rw [hh]
theorem Zap.keeps {base : Nat} {S : Nat → Prop} {w w' : World} {v : Value} (h : Zap base w v) (k : Keeps S w w') (hs : ∀ g us, Blk w g us 3 → ¬ S g) : Zap base w' v := by
  obtain ⟨a, n, c, rfl, hn, h2⟩ := h
  refine ⟨a, n, c, rfl, hn, h2.imp id ?_⟩
  rintro ⟨g, us, ha, hg, hb, hl⟩
  exact ⟨g, us, ha, hg, hb.keeps k (hs g us hb), hl⟩
theorem Zap.base {b b' : Nat} {w : World} {v : Value} (h : Zap b w v) (hb : b' ≤ b) : Zap b' w v := by
  obtain ⟨a, n, c, rfl, hn, h2⟩ := h
  exact ⟨a, n, c, rfl, hn, h2.imp id fun ⟨g, us, ha, hg, r⟩ => ⟨g, us, ha, by omega, r⟩⟩
theorem Zap.store {base : Nat} {w : World} {v : Value} (h : Zap base w v) {g : Nat} {us : List Value} (hb : Blk w g us 3) (i : Nat) (u : Value) : Zap base (w.setCell ⟨g, i, none⟩ u) v := by
  obtain ⟨a, n, c, rfl, hn, h2⟩ := h
  refine ⟨a, n, c, rfl, hn, h2.imp id ?_⟩
  rintro ⟨g2, us2, ha, hg, hb2, hl⟩
  by_cases he : g2 = g
  · subst he
    have e : us2 = us := by
      unfold Blk at hb hb2
      rw [hb] at hb2
      simp only [Option.some.injEq, Obj.cells.injEq] at hb2
      have := congrArg Array.toList hb2.1
      simpa using this.symm
    subst e
    exact ⟨g2, _, ha, hg, hb2.store i u, by simpa using hl⟩
  · exact ⟨g2, us2, ha, hg, hb2.other he _, hl⟩
theorem owns_store {base B : Nat} {w : World} {v : Value} {n : Nat} {T : List Value} (h : w.ownsRow base 25 1 v n T) {g : Nat} {us : List Value} (hb : Blk w g us 3) (i : Nat) (u : Value) : (w.setCell ⟨g, i, none⟩ u).ownsRow base 25 1 v n T := by
  obtain ⟨hl, h2⟩ := h
  refine ⟨hl, h2.imp id ?_⟩
  rintro ⟨G, cap, cur, rfl, hg, hh, r⟩
  refine ⟨G, cap, cur, rfl, hg, ?_, r⟩
  rw [Below.heap_setCell _ _ _ _ (fun e => ?_)]
  · exact hh
  · unfold Blk at hb
    subst e
    rw [hh] at hb
    simp at hb
/-- What Only hands over: the lists, or none. -/
def onlyR (next : List (List Int)) (l : List Int) : List (List Int) := if onlyE next l = 0 then onlyL next l else []
theorem onlyR_short {next : List (List Int)} {l : List Int} (h : ∀ i, (next.getD i []).length ≤ 200) (i : Nat) : ((onlyR next l).getD i []).length ≤ 200 := by
  unfold onlyR
  split
  · by_cases hi : i < l.length
    · rw [onlyL_at hi, rowO_length]
      exact h _
    · rw [List.getD_eq_getElem?_getD, List.getElem?_eq_none (by rw [onlyL_length]; omega)]
      simp
  · simp
theorem s_only (a : Option Addr) (n cap : Nat) (next : List (List Int)) (b : Option Addr) (m cap2 : Nat) (l : List Int) (BL : List (List Int)) (mb : Nat) (E : Int) (w : World) (h : Rows w a n next) (h2 : Ints w b m l) (hc : checkB next = true) (hl : ∀ x ∈ l, 0 ≤ x ∧ x < (n : Int)) (hm : m ≤ 1000) (hsh : ∀ i, (next.getD i []).length ≤ 200) (hBL : onlyR next l = BL) (hmb : BL.length = mb) (hE : onlyE next l = E) :
    Calls Try.prog 37 #[.slice a n cap, .slice b m cap2] w fun e w' => ∃ ab cb S, e = .returned (.tuple #[.slice ab mb cb, .int .i64 E]) ∧ Rows w' ab mb BL ∧ w'.ownsRow w.heap.size 25 1 (.slice ab mb cb) mb S ∧ (∀ (j : Nat) (v : Value), S[j]? = some v → Zap w.heap.size w' v) ∧ Keeps Non w w' := by
  refine (only_l a n cap next b m cap2 l w h h2 hc hl (by omega)).mono fun e w' ⟨v, he, hy, hn⟩ => ?_
  by_cases h0 : onlyE next l = 0
  · obtain ⟨B, S, hv, hB, hR, hk⟩ := hy h0
    have e1 : onlyR next l = onlyL next l := if_pos h0
    have hlen : (onlyL next l).length = mb := by rw [← hmb, ← hBL, e1]
    have hm2 : mb = m := by rw [← hlen, onlyL_length, h2.len]
    have hr := hR.rows (by omega) (fun i => by have := onlyR_short (l := l) hsh i; rw [e1] at this; omega)
    rw [hlen] at hr hv
    subst hv
    have hSl : S.length = mb := by have := hR.len; omega
    rw [hE] at he
    rw [e1] at hBL
    rw [hBL] at hr
    refine ⟨some ⟨B, 0, none⟩, mb, S, he, hr, ⟨by rw [hSl]; omega, .inr ⟨B, mb, S.toArray, rfl, hB, hR.blk, Nat.le_refl _, by unfold maxLen; omega, by simp [hSl], ?_⟩⟩, fun j v hv => ?_, hk⟩
    · rw [Nat.mul_one]
      exact List.take_of_length_le (by simp [hSl])
    · have hj : j < (onlyL next l).length := by
        have := (List.getElem?_eq_some_iff.1 hv).1
        omega
      obtain ⟨v2, h3, h4⟩ := hR.row j hj
      rw [hv] at h3
      cases h3
      have h5 := onlyR_short (l := l) hsh j
      rw [e1] at h5
      exact (Zap.of_owns h4 (by omega)).base (by omega)
  · obtain ⟨hv, hk⟩ := hn h0
    have e1 : onlyR next l = [] := if_neg h0
    rw [e1] at hBL
    subst hBL
    subst hmb
    subst hv
    rw [hE] at he
    exact ⟨none, 0, [], he, ⟨rfl, by simp, .inl rfl⟩, World.ownsRow_nil _ _ _ _, fun j v hv => by simp at hv, hk⟩
theorem s_refonly (a b : Option Addr) (n cap m cap2 : Nat) (next : List (List Int)) (l : List Int) (BL : List (List Int)) (mb : Nat) (E : Int) (w : World) (h : Rows w a n next) (h2 : Ints w b m l) (hc : checkB next = true) (hl : ∀ x ∈ l, 0 ≤ x ∧ x < (n : Int)) (hm : m ≤ 1000) (hroom : m ≤ cap2) (hsh : ∀ i, (next.getD i []).length ≤ 200) (hBL : onlyR next l = BL) (hmb : BL.length = mb) (hE : onlyE next l = E) :
    Calls Try.prog 59 #[.slice a n cap, .slice b m cap2] w fun e w' => ∃ ac cc, e = .returned (.tuple #[.slice ac mb cc, .int .i64 E]) ∧ Rows w' ac mb BL ∧ Keeps Non w w' := by
  refine (refonly_l a b n cap m cap2 next l w h h2 hc hl hm hroom hsh).mono fun e w' ⟨v, he, hy, hn⟩ => ?_
  by_cases h0 : onlyE next l = 0
  · obtain ⟨ac, cc, hv, hR, hk⟩ := hy h0
    have e1 : onlyR next l = onlyL next l := if_pos h0
    rw [e1] at hBL
    subst hv
    rw [hE] at he
    rw [hBL, hmb] at hR he
    exact ⟨ac, cc, he, hR, hk⟩
  · obtain ⟨hv, hk⟩ := hn h0
    have e1 : onlyR next l = [] := if_neg h0
    rw [e1] at hBL
    subst hBL
    subst hmb
    subst hv
    rw [hE] at he
    exact ⟨none, 0, he, ⟨rfl, by simp, .inl rfl⟩, hk⟩
set_option maxRecDepth 100000 in
set_option maxHeartbeats 8000000 in
theorem some_bad (a b : Option Addr) (n cap m cap2 : Nat) (next : List (List Int)) (l : List Int) (x : Int) (w : World) (h : Rows w a n next) (h2 : Ints w b m l) (hn : n ≤ 25) (ht : total next ≤ 200) (hm : m ≤ 40) (hx : wrongE next l = x) (h0 : x ≠ 0) :
    Calls Try.prog 34 #[.slice a n cap, .slice b m cap2] w fun e w' => e = .returned (.bool true) ∧ Keeps Non w w' := by
  have HSm := hide (row_small ht)
  have HTt := hide ht
  have HWr := hide hx
  have hlen := h.len
  have hca : (checkB next = false ∧ x = 70) ∨ (checkB next = true ∧ l.any (badB n) = true ∧ x = 2) := by
    unfold wrongE at hx
    by_cases hc : checkB next = true
    · rw [if_pos hc] at hx
      by_cases hb : l.any (badB next.length) = true
      · rw [if_pos hb] at hx
        rw [hlen] at hb
        exact .inr ⟨hc, hb, hx.symm⟩
      · rw [if_neg hb] at hx
        exact absurd hx.symm h0
    · rw [if_neg hc] at hx
      exact .inl ⟨by simpa using hc, hx.symm⟩
  have hk0 := (Keeps.refl Non w).alloc (.cells #[.slice a n cap] 23)
  have HBx := hide (Blk.new w [.slice a n cap] 23)
  have HX := hide (h.non hk0)
  have HY := hide (h2.non hk0)
  have HK := hide hk0
  obtain ⟨C, hC⟩ : ∃ C, w.heap.size = C := ⟨_, rfl⟩
  rw [hC] at HBx
  clear h h2 hx hk0 ht hlen
  go_enter Try.func34, Try.ntmps34
  obtain ⟨W0, hW0⟩ : ∃ W, w.alloc (.cells #[.slice a n cap] 23) = W := ⟨_, rfl⟩
  rw [hW0] at HBx HX HY HK
  have cB := HBx.out.cell 0
  simp only [List.getElem?_cons_zero] at cB
  have lB := HBx.out.lt
  go_wp2_with fail
  try rw [hW0]
  try rw [hC]
  clear hW0
  have C1 := hide (y_copied a n cap next W0 HX.out (by omega) (fun i => by have := HSm.out i; omega))
  refine C1.out.mono ?_
  rintro e x1 ⟨bo, co, rfl, hR, hk⟩
  replace HBx := hide (HBx.out.non hk)
  replace HX := hide (HX.out.non hk)
  replace HY := hide (HY.out.non hk)
  replace HK := hide (HK.out.then hk)
  have HR := hide hR
  clear hk C1 cB lB hR
  have cB := HBx.out.cell 0
  simp only [List.getElem?_cons_zero] at cB
  have lB := HBx.out.lt
  have C1 := hide (clone_l b m cap2 l x1 HY.out (by omega))
  go_wp2_with fail
  refine C1.out.mono ?_
  rintro e x2 ⟨v, rfl, bp, cp, rfl, hI, hk⟩
  rw [show l.length = m from HY.out.len] at hI ⊢
  replace HBx := hide (HBx.out.non hk)
  replace HX := hide (HX.out.non hk)
  replace HY := hide (HY.out.non hk)
  replace HR := hide (HR.out.non hk)
  replace HK := hide (HK.out.then hk)
  have HP := hide hI
  clear hk C1 cB lB hI
  have cB := HBx.out.cell 0
  simp only [List.getElem?_cons_zero] at cB
  have lB := HBx.out.lt
  have C1 := hide (closed_no bo n co next bp m cp l x x2 HR.out HP.out HWr.out h0)
  go_wp2_with fail
  refine C1.out.mono ?_
  rintro e x3 ⟨rfl, hk⟩
  replace HBx := hide (HBx.out.non hk)
  replace HX := hide (HX.out.non hk)
  replace HY := hide (HY.out.non hk)
  replace HR := hide (HR.out.non hk)
  replace HP := hide (HP.out.non hk)
  replace HK := hide (HK.out.then hk)
  clear hk C1 cB lB 
  have cB := HBx.out.cell 0
  simp only [List.getElem?_cons_zero] at cB
  have lB := HBx.out.lt
  have C1 := hide (closure_no bo n co next bp m cp l x x3 HR.out HP.out HWr.out h0)
  go_wp2_with fail
  refine C1.out.mono ?_
  rintro e x4 ⟨rfl, hk⟩
  replace HBx := hide (HBx.out.non hk)
  replace HX := hide (HX.out.non hk)
  replace HY := hide (HY.out.non hk)
  replace HR := hide (HR.out.non hk)
  replace HP := hide (HP.out.non hk)
  replace HK := hide (HK.out.then hk)
  clear hk C1 cB lB 
  have cB := HBx.out.cell 0
  simp only [List.getElem?_cons_zero] at cB
  have lB := HBx.out.lt
  have C1 := hide (only_no bo n co next bp m cp l x x4 HR.out HP.out HWr.out h0)
  go_wp2_with fail
  refine C1.out.mono ?_
  rintro e x5 ⟨rfl, hk⟩
  replace HBx := hide (HBx.out.non hk)
  replace HX := hide (HX.out.non hk)
  replace HY := hide (HY.out.non hk)
  replace HR := hide (HR.out.non hk)
  replace HP := hide (HP.out.non hk)
  replace HK := hide (HK.out.then hk)
  clear hk C1 cB lB 
  have cB := HBx.out.cell 0
  simp only [List.getElem?_cons_zero] at cB
  have lB := HBx.out.lt
  have C1 := hide (lists_l bo n co next a n cap next x5 HR.out HX.out)
  rw [decide_eq_true rfl] at C1
  go_wp2_with fail
  refine C1.out.mono ?_
  rintro e x6 ⟨rfl, hk⟩
  replace HBx := hide (HBx.out.non hk)
  replace HX := hide (HX.out.non hk)
  replace HY := hide (HY.out.non hk)
  replace HR := hide (HR.out.non hk)
  replace HP := hide (HP.out.non hk)
  replace HK := hide (HK.out.then hk)
  clear hk C1 cB lB
  have cB := HBx.out.cell 0
  simp only [List.getElem?_cons_zero] at cB
  have lB := HBx.out.lt
  have C1 := hide (equal_any bp m cp l b m cap2 l x6 HP.out HY.out)
  rw [decide_eq_true rfl] at C1
  go_wp2_with fail
  refine C1.out.mono ?_
  rintro e x7 ⟨rfl, hk⟩
  replace HBx := hide (HBx.out.non hk)
  replace HX := hide (HX.out.non hk)
  replace HY := hide (HY.out.non hk)
  replace HR := hide (HR.out.non hk)
  replace HP := hide (HP.out.non hk)
  replace HK := hide (HK.out.then hk)
  clear hk C1 cB lB
  have cB := HBx.out.cell 0
  simp only [List.getElem?_cons_zero] at cB
  have lB := HBx.out.lt
  have CC := hide (refcheck_l a n cap next x7 HX.out hn HTt.out)
  rcases hca with ⟨hc, rfl⟩ | ⟨hc, hb, rfl⟩
  · rw [hc] at CC
    clear hc
    go_wp2_with fail
    refine CC.out.mono ?_
    rintro e y1 ⟨rfl, hk⟩
    replace HBx := hide (HBx.out.non hk)
    replace HX := hide (HX.out.non hk)
    replace HY := hide (HY.out.non hk)
    replace HR := hide (HR.out.non hk)
    replace HP := hide (HP.out.non hk)
    replace HK := hide (HK.out.then hk)
    clear hk CC cB lB
    go_wp2_with fail
    go_ret
    exact ⟨rfl, HK.out⟩
  · rw [hc] at CC
    clear hc
    go_wp2_with fail
    refine CC.out.mono ?_
    rintro e y1 ⟨rfl, hk⟩
    replace HBx := hide (HBx.out.non hk)
    replace HX := hide (HX.out.non hk)
    replace HY := hide (HY.out.non hk)
    replace HR := hide (HR.out.non hk)
    replace HP := hide (HP.out.non hk)
    replace HK := hide (HK.out.then hk)
    clear hk CC cB lB
    have cB := HBx.out.cell 0
    simp only [List.getElem?_cons_zero] at cB
    have lB := HBx.out.lt
    have CD := hide (contains_int b m cap2 l 58 (.pointer (some ⟨C, 0, none⟩)) (badB n) y1 ent58 HY.out (fun x w' hk' => bad58 x a n cap C w' (HBx.out.keeps hk' (fun x => x))))
    rw [hb] at CD
    clear hb
    go_wp2_with fail
    refine CD.out.mono ?_
    rintro e y2 ⟨rfl, hk⟩
    replace HBx := hide (HBx.out.non hk)
    replace HX := hide (HX.out.non hk)
    replace HY := hide (HY.out.non hk)
    replace HR := hide (HR.out.non hk)
    replace HP := hide (HP.out.non hk)
    replace HK := hide (HK.out.then hk)
    clear hk CD cB lB
    go_wp2_with fail
    go_ret
    exact ⟨rfl, HK.out⟩
set_option maxRecDepth 100000 in
set_option maxHeartbeats 8000000 in
theorem some_in (a b : Option Addr) (n cap m cap2 : Nat) (next : List (List Int)) (l : List Int) (w : World) (h : Rows w a n next) (h2 : Ints w b m l) (hn : n ≤ 25) (ht : total next ≤ 200) (hm : m ≤ 40) (hroom : m ≤ cap2) (hc : checkB next = true) (hl : ∀ x ∈ l, 0 ≤ x ∧ x < (n : Int)) :
    Calls Try.prog 34 #[.slice a n cap, .slice b m cap2] w fun e w' => e = .returned (.bool true) ∧ Keeps Non w w' := by
  obtain ⟨i1, hj, hy0, hy1, hy2⟩ := info25_parts
  have HSm := hide (row_small ht)
  have HTt := hide ht
  have HC := hide hc
  have HL := hide hl
  have hlen := h.len
  have hany : l.any (badB n) = false := by
    rw [List.any_eq_false]
    intro x hx
    have := hl x hx
    rw [Bool.not_eq_true, badB_no]
    exact this
  have HAny := hide hany
  have hcl := closed_iff hc (l := l) (by rw [hlen]; exact hl)
  rw [hlen] at hcl
  obtain ⟨vc, hvc⟩ : ∃ v, decide (closedP next l) = v := ⟨_, rfl⟩
  rw [hvc] at hcl
  have HCl := hide hcl
  have HVc := hide hvc
  obtain ⟨A, hA⟩ : ∃ A, closureL next n l = A := ⟨_, rfl⟩
  have hAf := found_len (-1) hc (l := l) (by rw [hlen]; exact hl)
  have hAl : A.length ≤ n := by rw [← hA]; unfold closureL; rw [sortL_length, List.length_map]; rw [hlen] at hAf; exact hAf
  obtain ⟨la, hla⟩ : ∃ y, A.length = y := ⟨_, rfl⟩
  rw [hla] at hAl
  have HA := hide hA
  have HLa := hide hla
  obtain ⟨E, hE⟩ : ∃ y, onlyE next l = y := ⟨_, rfl⟩
  obtain ⟨BL, hBL⟩ : ∃ y, onlyR next l = y := ⟨_, rfl⟩
  obtain ⟨mb, hmb⟩ : ∃ y, BL.length = y := ⟨_, rfl⟩
  have hmbm : mb ≤ 40 := by
    rw [← hmb, ← hBL]
    unfold onlyR
    split
    · rw [onlyL_length, h2.len]; omega
    · simp
  have HE := hide hE
  have HBL := hide hBL
  have HMb := hide hmb
  have hk0 := (Keeps.refl Non w).alloc (.cells #[.slice a n cap] 23)
  have HBx := hide (Blk.new w [.slice a n cap] 23)
  have HX := hide (h.non hk0)
  have HY := hide (h2.non hk0)
  have HK := hide hk0
  obtain ⟨C, hC⟩ : ∃ C, w.heap.size = C := ⟨_, rfl⟩
  rw [hC] at HBx
  clear h h2 hk0 ht hlen hc hl hany hcl hvc hA hAf hla hE hBL hmb
  go_enter Try.func34, Try.ntmps34
  obtain ⟨W0, hW0⟩ : ∃ W, w.alloc (.cells #[.slice a n cap] 23) = W := ⟨_, rfl⟩
  rw [hW0] at HBx HX HY HK
  have cB := HBx.out.cell 0
  simp only [List.getElem?_cons_zero] at cB
  have lB := HBx.out.lt
  go_wp2_with fail
  try rw [hW0]
  try rw [hC]
  clear hW0
  have C1 := hide (y_copied a n cap next W0 HX.out (by omega) (fun i => by have := HSm.out i; omega))
  refine C1.out.mono ?_
  rintro e x1 ⟨bo, co, rfl, hR, hk⟩
  replace HBx := hide (HBx.out.non hk)
  replace HX := hide (HX.out.non hk)
  replace HY := hide (HY.out.non hk)
  replace HK := hide (HK.out.then hk)
  have HR := hide hR
  clear hk C1 cB lB hR
  have cB := HBx.out.cell 0
  simp only [List.getElem?_cons_zero] at cB
  have lB := HBx.out.lt
  have C1 := hide (clone_l b m cap2 l x1 HY.out (by omega))
  go_wp2_with fail
  refine C1.out.mono ?_
  rintro e x2 ⟨v, rfl, bp, cp, rfl, hI, hk⟩
  rw [show l.length = m from HY.out.len] at hI ⊢
  replace HBx := hide (HBx.out.non hk)
  replace HX := hide (HX.out.non hk)
  replace HY := hide (HY.out.non hk)
  replace HR := hide (HR.out.non hk)
  replace HK := hide (HK.out.then hk)
  have HP := hide hI
  clear hk C1 cB lB hI
  have cB := HBx.out.cell 0
  simp only [List.getElem?_cons_zero] at cB
  have lB := HBx.out.lt
  obtain ⟨WB, hWB⟩ : ∃ z, z = x2 := ⟨_, rfl⟩
  subst hWB
  obtain ⟨base, hbase⟩ : ∃ z, WB.heap.size = z := ⟨_, rfl⟩
  have HBase := hide hbase
  have HKB : Hid (Keeps Non WB WB) := Keeps.refl _ _
  have HX0 := hide HX.out
  have HY0 := hide HY.out
  have HR0 := hide HR.out
  have HP0 := hide HP.out
  have HB0 := hide HBx.out
  have HK0 := hide HK.out
  clear hbase
  have C1 := hide (closed_yes bo n co next bp m cp l WB HR.out HP.out HC.out HL.out (by omega))
  rw [HCl.out] at C1
  go_wp2_with fail
  refine C1.out.mono ?_
  rintro e x3 ⟨rfl, hk⟩
  replace HBx := hide (HBx.out.non hk)
  replace HX := hide (HX.out.non hk)
  replace HY := hide (HY.out.non hk)
  replace HR := hide (HR.out.non hk)
  replace HP := hide (HP.out.non hk)
  replace HK := hide (HK.out.then hk)
  replace HKB := hide (HKB.out.then hk)
  clear hk C1 cB lB
  have cB := HBx.out.cell 0
  simp only [List.getElem?_cons_zero] at cB
  have lB := HBx.out.lt
  have C1 := hide (closure_yes bo n co next bp m cp l x3 HR.out HP.out HC.out HL.out (by omega))
  rw [HA.out] at C1
  go_wp2_with fail
  refine C1.out.mono ?_
  rintro e x4 ⟨v, rfl, hO⟩
  obtain ⟨aa, ca, hv, hI⟩ := ints_of_owns hO.1 (by rw [HLa.out]; omega)
  subst hv
  have hoa := owns_base hO.1 (show base ≤ x3.heap.size by have := HKB.out.size; have := HBase.out; omega)
  have hk := hO.2
  rw [HLa.out] at hI hoa ⊢
  replace HBx := hide (HBx.out.non hk)
  replace HX := hide (HX.out.non hk)
  replace HY := hide (HY.out.non hk)
  replace HR := hide (HR.out.non hk)
  replace HP := hide (HP.out.non hk)
  replace HK := hide (HK.out.then hk)
  replace HKB := hide (HKB.out.then hk)
  have HIa := hide hI
  have HOa := hide hoa
  clear hk C1 cB lB hI hoa hO
  have cB := HBx.out.cell 0
  simp only [List.getElem?_cons_zero] at cB
  have lB := HBx.out.lt
  have C1 := hide (s_only bo n co next bp m cp l BL mb E x4 HR.out HP.out HC.out HL.out (by omega) HSm.out HBL.out HMb.out HE.out)
  go_wp2_with fail
  refine C1.out.mono ?_
  rintro e x5 ⟨ab, cb, S, rfl, hRb, hob, hzb, hk⟩
  have hsz : base ≤ x4.heap.size := by have := HKB.out.size; have := HBase.out; omega
  replace HBx := hide (HBx.out.non hk)
  replace HX := hide (HX.out.non hk)
  replace HY := hide (HY.out.non hk)
  replace HR := hide (HR.out.non hk)
  replace HP := hide (HP.out.non hk)
  replace HIa := hide (HIa.out.non hk)
  replace HK := hide (HK.out.then hk)
  replace HKB := hide (HKB.out.then hk)
  replace HOa := hide (owns_keeps HOa.out hk (fun _ _ x => x))
  have HRb := hide hRb
  have HOb := hide (owns_base hob hsz)
  have HZb := hide (fun (j : Nat) (v : Value) (hv : S[j]? = some v) => (hzb j v hv).base hsz)
  clear hk C1 cB lB hRb hob hzb hsz
  have cB := HBx.out.cell 0
  simp only [List.getElem?_cons_zero] at cB
  have lB := HBx.out.lt
  have C1 := hide (lists_l bo n co next a n cap next x5 HR.out HX.out)
  rw [decide_eq_true rfl] at C1
  go_wp2_with fail
  refine C1.out.mono ?_
  rintro e x6 ⟨rfl, hk⟩
  replace HBx := hide (HBx.out.non hk)
  replace HX := hide (HX.out.non hk)
  replace HY := hide (HY.out.non hk)
  replace HR := hide (HR.out.non hk)
  replace HP := hide (HP.out.non hk)
  replace HIa := hide (HIa.out.non hk)
  replace HRb := hide (HRb.out.non hk)
  replace HK := hide (HK.out.then hk)
  replace HKB := hide (HKB.out.then hk)
  replace HOa := hide (owns_keeps HOa.out hk (fun _ _ x => x))
  replace HOb := hide (owns_keeps HOb.out hk (fun _ _ x => x))
  replace HZb := hide (fun j v hv => (HZb.out j v hv).keeps hk (fun _ _ _ x => x))
  clear hk C1 cB lB
  have cB := HBx.out.cell 0
  simp only [List.getElem?_cons_zero] at cB
  have lB := HBx.out.lt
  have C1 := hide (equal_any bp m cp l b m cap2 l x6 HP.out HY.out)
  rw [decide_eq_true rfl] at C1
  go_wp2_with fail
  refine C1.out.mono ?_
  rintro e x7 ⟨rfl, hk⟩
  replace HBx := hide (HBx.out.non hk)
  replace HX := hide (HX.out.non hk)
  replace HY := hide (HY.out.non hk)
  replace HR := hide (HR.out.non hk)
  replace HP := hide (HP.out.non hk)
  replace HIa := hide (HIa.out.non hk)
  replace HRb := hide (HRb.out.non hk)
  replace HK := hide (HK.out.then hk)
  replace HKB := hide (HKB.out.then hk)
  replace HOa := hide (owns_keeps HOa.out hk (fun _ _ x => x))
  replace HOb := hide (owns_keeps HOb.out hk (fun _ _ x => x))
  replace HZb := hide (fun j v hv => (HZb.out j v hv).keeps hk (fun _ _ _ x => x))
  clear hk C1 cB lB
  have cB := HBx.out.cell 0
  simp only [List.getElem?_cons_zero] at cB
  have lB := HBx.out.lt
  have C1 := hide (refcheck_l a n cap next x7 HX.out hn HTt.out)
  rw [HC.out] at C1
  go_wp2_with fail
  refine C1.out.mono ?_
  rintro e x8 ⟨rfl, hk⟩
  replace HBx := hide (HBx.out.non hk)
  replace HX := hide (HX.out.non hk)
  replace HY := hide (HY.out.non hk)
  replace HR := hide (HR.out.non hk)
  replace HP := hide (HP.out.non hk)
  replace HIa := hide (HIa.out.non hk)
  replace HRb := hide (HRb.out.non hk)
  replace HK := hide (HK.out.then hk)
  replace HKB := hide (HKB.out.then hk)
  replace HOa := hide (owns_keeps HOa.out hk (fun _ _ x => x))
  replace HOb := hide (owns_keeps HOb.out hk (fun _ _ x => x))
  replace HZb := hide (fun j v hv => (HZb.out j v hv).keeps hk (fun _ _ _ x => x))
  clear hk C1 cB lB
  have cB := HBx.out.cell 0
  simp only [List.getElem?_cons_zero] at cB
  have lB := HBx.out.lt
  have C1 := hide (contains_int b m cap2 l 58 (.pointer (some ⟨C, 0, none⟩)) (badB n) x8 ent58 HY.out (fun x w' hk' => bad58 x a n cap C w' (HBx.out.keeps hk' (fun x => x))))
  rw [HAny.out] at C1
  go_wp2_with fail
  refine C1.out.mono ?_
  rintro e x9 ⟨rfl, hk⟩
  replace HBx := hide (HBx.out.non hk)
  replace HX := hide (HX.out.non hk)
  replace HY := hide (HY.out.non hk)
  replace HR := hide (HR.out.non hk)
  replace HP := hide (HP.out.non hk)
  replace HIa := hide (HIa.out.non hk)
  replace HRb := hide (HRb.out.non hk)
  replace HK := hide (HK.out.then hk)
  replace HKB := hide (HKB.out.then hk)
  replace HOa := hide (owns_keeps HOa.out hk (fun _ _ x => x))
  replace HOb := hide (owns_keeps HOb.out hk (fun _ _ x => x))
  replace HZb := hide (fun j v hv => (HZb.out j v hv).keeps hk (fun _ _ _ x => x))
  clear hk C1 cB lB
  have cB := HBx.out.cell 0
  simp only [List.getElem?_cons_zero] at cB
  have lB := HBx.out.lt
  have C1 := hide (s_refonly a b n cap m cap2 next l BL mb E x9 HX.out HY.out HC.out HL.out (by omega) hroom HSm.out HBL.out HMb.out HE.out)
  go_wp2_with fail
  refine C1.out.mono ?_
  rintro e x10 ⟨ac, cc, rfl, hRc, hk⟩
  replace HBx := hide (HBx.out.non hk)
  replace HX := hide (HX.out.non hk)
  replace HY := hide (HY.out.non hk)
  replace HR := hide (HR.out.non hk)
  replace HP := hide (HP.out.non hk)
  replace HIa := hide (HIa.out.non hk)
  replace HRb := hide (HRb.out.non hk)
  replace HK := hide (HK.out.then hk)
  replace HKB := hide (HKB.out.then hk)
  replace HOa := hide (owns_keeps HOa.out hk (fun _ _ x => x))
  replace HOb := hide (owns_keeps HOb.out hk (fun _ _ x => x))
  replace HZb := hide (fun j v hv => (HZb.out j v hv).keeps hk (fun _ _ _ x => x))
  have HRc := hide hRc
  clear hk C1 cB lB hRc
  have cB := HBx.out.cell 0
  simp only [List.getElem?_cons_zero] at cB
  have lB := HBx.out.lt
  have C1 := hide (refclosed_l a b n cap m cap2 next l x10 HX.out HY.out HL.out (by omega) HSm.out)
  rw [HVc.out] at C1
  go_wp2_with fail
  refine C1.out.mono ?_
  rintro e x11 ⟨rfl, hk⟩
  replace HBx := hide (HBx.out.non hk)
  replace HX := hide (HX.out.non hk)
  replace HY := hide (HY.out.non hk)
  replace HR := hide (HR.out.non hk)
  replace HP := hide (HP.out.non hk)
  replace HIa := hide (HIa.out.non hk)
  replace HRb := hide (HRb.out.non hk)
  replace HRc := hide (HRc.out.non hk)
  replace HK := hide (HK.out.then hk)
  replace HKB := hide (HKB.out.then hk)
  replace HOa := hide (owns_keeps HOa.out hk (fun _ _ x => x))
  replace HOb := hide (owns_keeps HOb.out hk (fun _ _ x => x))
  replace HZb := hide (fun j v hv => (HZb.out j v hv).keeps hk (fun _ _ _ x => x))
  clear hk C1 cB lB
  have cB := HBx.out.cell 0
  simp only [List.getElem?_cons_zero] at cB
  have lB := HBx.out.lt
  have C1 := hide (refclosure_l a b n cap m cap2 next l x11 HX.out HY.out HC.out HL.out hn (by omega) HSm.out)
  rw [HA.out] at C1
  have gv : (vc == vc) = true := by simp
  go_wp2_with fail
  refine C1.out.mono ?_
  rintro e x12 ⟨v, rfl, hO⟩
  obtain ⟨ad, cd, hv, hI⟩ := ints_of_owns hO.1 (by rw [HLa.out]; omega)
  subst hv
  have hk := hO.2
  rw [HLa.out] at hI ⊢
  replace HBx := hide (HBx.out.non hk)
  replace HX := hide (HX.out.non hk)
  replace HY := hide (HY.out.non hk)
  replace HR := hide (HR.out.non hk)
  replace HP := hide (HP.out.non hk)
  replace HIa := hide (HIa.out.non hk)
  replace HRb := hide (HRb.out.non hk)
  replace HRc := hide (HRc.out.non hk)
  replace HK := hide (HK.out.then hk)
  replace HKB := hide (HKB.out.then hk)
  replace HOa := hide (owns_keeps HOa.out hk (fun _ _ x => x))
  replace HOb := hide (owns_keeps HOb.out hk (fun _ _ x => x))
  replace HZb := hide (fun j v hv => (HZb.out j v hv).keeps hk (fun _ _ _ x => x))
  have HId := hide hI
  clear hk C1 cB lB hI hO
  have cB := HBx.out.cell 0
  simp only [List.getElem?_cons_zero] at cB
  have lB := HBx.out.lt
  have C1 := hide (equal_any aa la ca A ad la cd A x12 HIa.out HId.out)
  rw [decide_eq_true rfl] at C1
  go_wp2_with fail
  refine C1.out.mono ?_
  rintro e x13 ⟨rfl, hk⟩
  replace HBx := hide (HBx.out.non hk)
  replace HX := hide (HX.out.non hk)
  replace HY := hide (HY.out.non hk)
  replace HR := hide (HR.out.non hk)
  replace HP := hide (HP.out.non hk)
  replace HIa := hide (HIa.out.non hk)
  replace HRb := hide (HRb.out.non hk)
  replace HRc := hide (HRc.out.non hk)
  replace HId := hide (HId.out.non hk)
  replace HK := hide (HK.out.then hk)
  replace HKB := hide (HKB.out.then hk)
  replace HOa := hide (owns_keeps HOa.out hk (fun _ _ x => x))
  replace HOb := hide (owns_keeps HOb.out hk (fun _ _ x => x))
  replace HZb := hide (fun j v hv => (HZb.out j v hv).keeps hk (fun _ _ _ x => x))
  clear hk C1 cB lB
  have cB := HBx.out.cell 0
  simp only [List.getElem?_cons_zero] at cB
  have lB := HBx.out.lt
  have C1 := hide (lists_l ab mb cb BL ac mb cc BL x13 HRb.out HRc.out)
  rw [decide_eq_true rfl] at C1
  go_wp2_with fail
  refine C1.out.mono ?_
  rintro e x14 ⟨rfl, hk⟩
  replace HBx := hide (HBx.out.non hk)
  replace HX := hide (HX.out.non hk)
  replace HY := hide (HY.out.non hk)
  replace HR := hide (HR.out.non hk)
  replace HP := hide (HP.out.non hk)
  replace HIa := hide (HIa.out.non hk)
  replace HRb := hide (HRb.out.non hk)
  replace HRc := hide (HRc.out.non hk)
  replace HId := hide (HId.out.non hk)
  replace HK := hide (HK.out.then hk)
  replace HKB := hide (HKB.out.then hk)
  replace HOa := hide (owns_keeps HOa.out hk (fun _ _ x => x))
  replace HOb := hide (owns_keeps HOb.out hk (fun _ _ x => x))
  replace HZb := hide (fun j v hv => (HZb.out j v hv).keeps hk (fun _ _ _ x => x))
  clear hk C1 cB lB
  have HZa := hide (Zap.of_owns HOa.out (by omega))
  have hSl : S.length = mb := by have := HOb.out.1; omega
  have HSl := hide hSl
  clear hSl HIa HId HRb HRc HX HY HR HP HBx HK
  go_wp2_with (at_builtin; refine wpList_append_own_at _ rfl _ _ 23 rfl base 25 i1 (.slice none 0 0) 1 24 Try.underlying23 hj hy0 hy1 hy2 rfl (by decide) (.slice ab mb cb) mb S rfl (owns_keeps HOb.out ((Keeps.refl Non _).alloc _) (fun _ _ x => x)) ⟨x14.heap.size, 0, none⟩ 1 1 [.slice aa la ca] rfl ?qd1 ?qd2 ?qd3 ?qd4 ?qd5 ?qd6 ?_)
  try (case qd1 => rfl)
  try (case qd2 => exact cell_one_new _ _ _)
  case qd3 => first | rfl | (intro u hu; simp at hu; subst hu; rfl)
  case qd4 => unfold maxLen; omega
  case qd5 => omega
  case qd6 => (try simp); have := HKB.out.size; have := HBase.out; omega
  intro v' w5 hown hgrow hnil hat
  obtain ⟨a5, c5, hv5⟩ := owns_slice hown
  subst hv5
  have hlt5 := owns_here HOb.out
  have hkg := keeps_grown (Keeps.refl (fun g => some g = Value.ownBlock (.slice ab mb cb)) (x14.alloc (.cells #[.slice aa la ca] 25))) hgrow (fun g hg => .inl hg.symm)
  have hzk : ∀ v, Zap base x14 v → Zap base w5 v := fun v hz => by
    refine (hz.keeps ((Keeps.refl Non x14).alloc (.cells #[.slice aa la ca] 25)) (fun _ _ _ x => x)).keeps hkg (fun g us hb e => ?_)
    obtain ⟨_, h4⟩ := owns_keeps HOb.out ((Keeps.refl Non x14).alloc (.cells #[.slice aa la ca] 25)) (fun _ _ x => x)
    rcases h4 with ⟨h5, _⟩ | ⟨g2, cap9, cur9, h5, _, hh, _⟩
    · rw [h5] at e; cases e
    · rw [h5] at e
      cases e
      unfold Blk at hb
      rw [hb] at hh
      simp at hh
  have HZ5 : Hid (∀ (j : Nat) (v : Value), (S ++ [.slice aa la ca])[j]? = some v → Zap base w5 v) := fun j v hv => by
    by_cases hj : j < S.length
    · rw [List.getElem?_append_left hj] at hv
      exact hzk v (HZb.out j v hv)
    · rw [List.getElem?_append_right (by omega)] at hv
      have h1 := (List.getElem?_eq_some_iff.1 hv).1
      simp only [List.length_cons, List.length_nil] at h1
      have h2 : j - S.length = 0 := by omega
      rw [h2] at hv
      simp at hv
      subst hv
      exact hzk _ HZa.out
  have HK5 : Hid (Keeps Non WB w5) := (HKB.out.alloc _).trans hkg (fun i hi e => by have := (hlt5 i e.symm).1; have := HBase.out; omega)
  have HO5 := hide hown
  have HT : Hid ((S ++ [Value.slice aa la ca]).length = mb + 1) := by show _ = _; rw [List.length_append, HSl.out]; rfl
  clear hown hgrow hnil hat hlt5 hkg hzk HOa HOb HZa HZb HKB HSl
  obtain ⟨T, hT⟩ : ∃ T, S ++ [Value.slice aa la ca] = T := ⟨_, rfl⟩
  rw [hT] at HZ5 HO5 HT
  obtain ⟨mt, hmt⟩ : ∃ z, mb + 1 = z := ⟨_, rfl⟩
  rw [hmt] at HO5 HT
  have hmtb : mt ≤ 41 := by omega
  clear hT
  go_wp2_with fail
  try rw [show ((mb : Int) + 1) = (mt : Int) by omega]
  try rw [hmt]
  go_loopw [124] (fun t wr => ∃ k : Nat, k ≤ mt ∧ t = .int .i64 k ∧ Hid (wr.ownsRow base 25 1 (.slice a5 mt c5) mt T) ∧ Hid (∀ (j : Nat) (v : Value), T[j]? = some v → Zap base wr v) ∧ Hid (Keeps Non WB wr)) (fun t _ => mt - (intOf t).toNat)
  case atStart => exact ⟨0, by omega, rfl, HO5.out, HZ5.out, HK5.out⟩
  case round =>
    clear HO5 HZ5 HK5
    obtain ⟨k, hk, rfl, HO, HZ, HKr⟩ := hrel
    by_cases hlt : k < mt
    · obtain ⟨v, hv⟩ : ∃ v, T[k]? = some v := ⟨_, List.getElem?_eq_getElem (by rw [HT.out]; exact hlt)⟩
      obtain ⟨a6, n6, c6, hv6, hn6, hz6⟩ := HZ.out k v hv
      subst hv6
      obtain ⟨G, cap9, hG⟩ : ∃ G cap9, Value.slice a5 mt c5 = .slice (some ⟨G, 0, none⟩) mt cap9 := by
        obtain ⟨_, h4⟩ := HO.out
        rcases h4 with ⟨h5, h6⟩ | ⟨g2, cap9, cur9, h5, _⟩
        · have := HO.out.1
          cases h5
          omega
        · exact ⟨g2, cap9, h5⟩
      cases hG
      have hcell := HO.out.cells (g := G) rfl k _ hv
      rw [Addr.add_lit, Nat.zero_add] at hcell
      have hGl := (owns_here HO.out G rfl).2
      have HV := hide hv
      have k0 : (0 : Int) ≤ (k : Int) := by omega
      have k1 : (k : Int) < (mt : Int) := by omega
      clear hv
      go_wp2_with fail
      have HO1 := hide HO.out
      have HZ1 := hide HZ.out
      have HK1 := hide HKr.out
      clear hcell hGl
      go_loopw [130] (fun t wx => ∃ i : Nat, i ≤ n6 ∧ t = .int .i64 i ∧ Hid (wx.ownsRow base 25 1 (.slice (some ⟨G, 0, none⟩) mt c5) mt T) ∧ Hid (∀ (j : Nat) (v : Value), T[j]? = some v → Zap base wx v) ∧ Hid (Keeps Non WB wx)) (fun t _ => n6 - (intOf t).toNat)
      case atStart => exact ⟨0, by omega, rfl, HO1.out, HZ1.out, HK1.out⟩
      case round =>
        clear HO HZ HKr HO1 HZ1 HK1
        obtain ⟨i, hi, rfl, HO, HZ, HKr⟩ := hrel
        by_cases hin : i < n6
        · obtain ⟨a7, n7, c7, hv7, hn7, hz7⟩ := HZ.out k _ HV.out
          cases hv7
          obtain ⟨g, us, hag, hbg, hB, hul⟩ := hz7.resolve_left (by omega)
          subst hag
          have HB := hide hB
          obtain ⟨u0, hu0⟩ : ∃ u, us[i]? = some u := ⟨_, List.getElem?_eq_getElem (by omega)⟩
          have cg : wr.cell? ⟨g, i, none⟩ = some u0 := by rw [hB.cell]; exact hu0
          have fg := hB.free i none
          have lg := hB.lt
          have i0 : (0 : Int) ≤ (i : Int) := by omega
          have i1' : (i : Int) < (n6 : Int) := by omega
          have hbW : WB.heap.size ≤ g := by have := HBase.out; omega
          clear hz6 hz7 hB hu0
          go_wp2_with fail
          go_roundw
          case rel => exact ⟨i + 1, by omega, by go_num, owns_store (B := 0) HO.out HB.out i _, fun j v hv => (HZ.out j v hv).store HB.out i _, HKr.out.set (b := g) (.inr hbW) _⟩
          case measure => simp [intOf]; omega
        · have hii : i = n6 := by omega
          subst hii
          have y8 : ¬ (i : Int) < (i : Int) := by omega
          clear hz6
          go_wp2_with fail
          go_roundw
          case rel => exact ⟨k + 1, by omega, by go_num, HO.out, HZ.out, HKr.out⟩
          case measure => simp [intOf]; omega
    · have hkk : k = mt := by omega
      subst hkk
      have y9 : ¬ (k : Int) < (k : Int) := by omega
      have cB := (HB0.out.non HKr.out).cell 0
      simp only [List.getElem?_cons_zero] at cB
      have lB := (HB0.out.non HKr.out).lt
      have C1 := hide (lists_l bo n co next a n cap next wr (HR0.out.non HKr.out) (HX0.out.non HKr.out))
      rw [decide_eq_true rfl] at C1
      go_wp2_with fail
      refine C1.out.mono ?_
      rintro e z1 ⟨rfl, hk1⟩
      have HK1 := hide (HKr.out.then hk1)
      have C2 := hide (equal_any bp m cp l b m cap2 l z1 (HP0.out.non HK1.out) (HY0.out.non HK1.out))
      rw [decide_eq_true rfl] at C2
      clear hk1 C1 cB lB
      go_wp2_with fail
      refine C2.out.mono ?_
      rintro e z2 ⟨rfl, hk2⟩
      have HK2 := hide (HK1.out.then hk2)
      clear hk2 C2
      go_wp2_with fail
      go_ret
      exact ⟨rfl, HK0.out.then HK2.out⟩
theorem some_l (a b : Option Addr) (n cap m cap2 : Nat) (next : List (List Int)) (l : List Int) (w : World) (h : Rows w a n next) (h2 : Ints w b m l) (hn : n ≤ 25) (ht : total next ≤ 200) (hm : m ≤ 40) (hroom : m ≤ cap2) :
    Calls Try.prog 34 #[.slice a n cap, .slice b m cap2] w fun e w' => e = .returned (.bool true) ∧ Keeps Non w w' := by
  by_cases h0 : wrongE next l = 0
  · have hc : checkB next = true := by
      unfold wrongE at h0
      by_cases hc : checkB next = true
      · exact hc
      · rw [if_neg hc] at h0
        cases h0
    refine some_in a b n cap m cap2 next l w h h2 hn ht hm hroom hc fun x hx => ?_
    unfold wrongE at h0
    rw [if_pos hc] at h0
    by_cases hb : l.any (badB next.length) = true
    · rw [if_pos hb] at h0
      cases h0
    · have hb2 : l.any (badB next.length) = false := by simpa using hb
      rw [List.any_eq_false] at hb2
      have := hb2 x hx
      rw [Bool.not_eq_true, badB_no, h.len] at this
      exact this
  · exact some_bad a b n cap m cap2 next l _ w h h2 hn ht hm rfl h0
end Go.Proofs.Ythpdflpkkiabhaa
