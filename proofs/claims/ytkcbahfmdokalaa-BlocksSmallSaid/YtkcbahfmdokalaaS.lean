/-
  Walks over layer 6's statements: lists, copied, few. No condition.
-/
import Derived.Test.YtkcbahfmdokalaaR
namespace Go.Proofs.Ytkcbahfmdokalaa
open Go.RowKit
attribute [local go_sem] onto_cell onto_frozen
set_option linter.unusedVariables false
theorem eq_of_getDL {α : Type} {xs ys : List α} (d : α) (hl : xs.length = ys.length) (h : ∀ j, j < xs.length → xs.getD j d = ys.getD j d) : xs = ys := by
  apply List.ext_getElem hl
  intro i h1 h2
  have := h i h1
  rwa [getD_numL h1, getD_numL h2] at this
theorem ent19 : Ent 19 := ent_of Try.func19 (by decide) rfl
set_option maxHeartbeats 2000000 in
theorem eqrows_l (a : Option Addr) (n cap : Nat) (xs : List (List Int)) (b : Option Addr) (m cap2 : Nat) (ys : List (List Int)) (w : World) (h : Rows w a n xs) (h2 : Rows w b m ys) :
    Calls Try.prog 65 #[.slice a n cap, .slice b m cap2, .func (.func 19) #[] #[]] w fun e w' => e = .returned (.bool (decide (xs = ys))) ∧ Keeps Non w w' := by
  have hn := h.big
  have hm := h2.big
  have hlx := hide h.len
  have hly := hide h2.len
  by_cases hnm : n = m
  · subst hnm
    have HX := hide h
    have HY := hide h2
    clear h h2
    go_enter Try.func65, Try.ntmps65
    go_wp2_with fail
    obtain ⟨W, hW, hWk⟩ : ∃ W, w = W ∧ Keeps Non w W := ⟨w, rfl, Keeps.refl _ _⟩
    go_loopw [17] (fun i wr => ∃ k : Nat, k ≤ n ∧ i = .int .i64 k ∧ Hid (Keeps Non w wr) ∧ Hid (∀ j, j < k → xs.getD j [] = ys.getD j [])) (fun i _ => n - (intOf i).toNat)
    case atStart => exact ⟨0, Nat.zero_le _, rfl, Keeps.refl _ _, fun j hj => by omega⟩
    case round =>
      clear hW hWk
      obtain ⟨k, hk, rfl, HK, HA⟩ := hrel
      by_cases hlt : k < n
      · obtain ⟨b1, o1, rfl, hb1, hc1⟩ := (HX.out.non HK.out).at (by omega)
        obtain ⟨b2, o2, rfl, hb2, hc2⟩ := (HY.out.non HK.out).at (by omega)
        obtain ⟨a1, q1, c1, hI1⟩ := hc1 k hlt
        obtain ⟨a2, q2, c2, hI2⟩ := hc2 k hlt
        obtain ⟨x, hx⟩ : ∃ x, xs.getD k [] = x := ⟨_, rfl⟩
        obtain ⟨y, hy⟩ : ∃ y, ys.getD k [] = y := ⟨_, rfl⟩
        rw [hx] at c1 hI1
        rw [hy] at c2 hI2
        have hE := equal_any _ _ q1 x _ _ q2 y wr hI1 hI2
        have HXY := hide (And.intro hx hy)
        obtain ⟨lx, hlx2⟩ : ∃ l, x.length = l := ⟨_, rfl⟩
        obtain ⟨ly, hly2⟩ : ∃ l, y.length = l := ⟨_, rfl⟩
        rw [hlx2] at c1 hE
        rw [hly2] at c2 hE
        have z0 : (0 : Int) ≤ (k : Int) := by omega
        have z1 : (k : Int) < (n : Int) := by omega
        clear hc1 hc2 hx hy hI1 hI2 hlx2 hly2
        by_cases hxy : x = y
        · rw [decide_eq_true hxy] at hE
          have HE := hide hE
          have HQ := hide hxy
          clear hE hxy
          go_wp2_with fail
          refine HE.out.mono ?_
          rintro e w4 ⟨rfl, hk4⟩
          have HK4 := hide (HK.out.then hk4)
          clear hk4
          go_wp2_with fail
          go_roundw
          case rel => exact ⟨k + 1, by omega, by go_num, HK4.out, fun j hj => by
            rcases Nat.lt_succ_iff_lt_or_eq.1 hj with h | rfl
            · exact HA.out j h
            · rw [HXY.out.1, HXY.out.2, HQ.out]⟩
          case measure => simp [intOf]; omega
        · rw [decide_eq_false hxy] at hE
          have HE := hide hE
          have hne : Hid (decide (xs = ys) = false) := by
            unfold Hid
            simp only [decide_eq_false_iff_not]
            intro he
            exact hxy (by rw [← HXY.out.1, ← HXY.out.2, he])
          clear hE hxy
          go_wp2_with fail
          refine HE.out.mono ?_
          rintro e w4 ⟨rfl, hk4⟩
          have HK4 := hide (HK.out.then hk4)
          clear hk4
          go_wp2_with fail
          try rw [Exit.noGoto_ret]
          go_ret
          exact ⟨ret_bool hne.out.symm, HK4.out⟩
      · have heq : Hid (decide (xs = ys) = true) := by
          unfold Hid
          simp only [decide_eq_true_eq]
          exact eq_of_getDL [] (by rw [hlx.out, hly.out]) (fun j hj => HA.out j (by rw [hlx.out] at hj; omega))
        go_wp2_with fail
        try rw [Exit.noGoto_ret]
        go_ret
        exact ⟨ret_bool heq.out.symm, HK.out⟩
  · have hnm' : ((n : Int) != (m : Int)) = true := by simp; omega
    have hne : Hid (decide (xs = ys) = false) := by
      unfold Hid
      simp only [decide_eq_false_iff_not]
      intro he
      exact hnm (by rw [← hlx.out, ← hly.out, he])
    clear h h2 hnm
    go_enter Try.func65, Try.ntmps65
    go_wp2_with fail
    go_ret
    exact ⟨ret_bool hne.out.symm, Keeps.refl _ _⟩
theorem lists_l (a : Option Addr) (n cap : Nat) (xs : List (List Int)) (b : Option Addr) (m cap2 : Nat) (ys : List (List Int)) (w : World) (h : Rows w a n xs) (h2 : Rows w b m ys) :
    Calls Try.prog 40 #[.slice a n cap, .slice b m cap2] w fun e w' => e = .returned (.bool (decide (xs = ys))) ∧ Keeps Non w w' := by
  have HE := hide (eqrows_l a n cap xs b m cap2 ys w h h2)
  obtain ⟨v, hv⟩ : ∃ v, decide (xs = ys) = v := ⟨_, rfl⟩
  rw [hv] at HE ⊢
  clear h h2 hv
  go_enter Try.func40, Try.ntmps40
  go_wp2_with fail
  refine HE.out.mono ?_
  rintro e w2 ⟨rfl, hk⟩
  go_wp2_with fail
  go_ret
  exact ⟨rfl, hk⟩
theorem clone_own (a : Option Addr) (n cap : Nat) (xs : List Int) (w : World) (h : Ints w a n xs) (hn : n ≤ 1000000) :
    Calls Try.prog 15 #[.slice a n cap] w fun e w' => ∃ v, e = .returned v ∧ w'.ownsRow w.heap.size 3 1 v n (xs.map (Value.int .i64)) ∧ Keeps Non w w' := by
  obtain rfl := h.len
  cases a with
  | none =>
    have h0 : xs.length = 0 := by
      rcases h.cell with h1 | ⟨b, off, h1, _⟩
      · exact h1
      · cases h1
    refine (Try.slices_Clone_int_nil xs.length cap w).mono ?_
    rintro e w' ⟨rfl, rfl⟩
    have hx : xs = [] := List.eq_nil_of_length_eq_zero h0
    subst hx
    exact ⟨_, rfl, World.ownsRow_nil _ _ _ _, Keeps.refl _ _⟩
  | some ad =>
    by_cases h0 : xs.length = 0
    · have hx : xs = [] := List.eq_nil_of_length_eq_zero h0
      subst hx
      refine (Try.slices_Clone_int_zero ad cap w).mono ?_
      rintro e w' ⟨v, rfl, ho, _, hb⟩
      exact ⟨_, rfl, ho, Keeps.of_below Non hb⟩
    · obtain ⟨b, off, hab, hb, hc⟩ := h.at (by omega)
      cases hab
      refine (Try.slices_Clone_int b off xs.length cap xs w (Nat.le_refl _) (by omega) (fun j hj => hc j hj)).mono ?_
      rintro e w' ⟨v, rfl, ho, _, hbl⟩
      rw [List.take_length] at ho
      exact ⟨_, rfl, ho, Keeps.of_below Non hbl⟩
/-- Slices of a row, none of which lies in the row's own block. -/
def Kids (w : World) (S : List Value) (xss : List (List Int)) (row : Option Nat) : Prop := ∀ j, j < xss.length → ∃ ai ci, S[j]? = some (.slice ai (xss.getD j []).length ci) ∧ Ints w ai (xss.getD j []).length (xss.getD j []) ∧ ∀ b o, ai = some ⟨b, o, none⟩ → b < w.heap.size ∧ row ≠ some b
theorem kids_rows {w : World} {S : List Value} {xss : List (List Int)} {row : Option Nat} {B e n : Nat} {v : Value} (h : Kids w S xss row) (ho : w.ownsRow B e 1 v n S) (hn : xss.length = n) (hb : n ≤ 17592186044416) : ∃ a cap, v = .slice a n cap ∧ Rows w a n xss := by
  obtain ⟨hl, h2⟩ := ho
  have hlen : S.length = n := by simpa using hl
  rcases h2 with ⟨rfl, rfl⟩ | ⟨g, cap, cur, rfl, hg, hh, hnc, hcm, hsz, htk⟩
  · exact ⟨none, 0, rfl, hn, hb, .inl rfl⟩
  · refine ⟨some ⟨g, 0, none⟩, cap, rfl, hn, hb, .inr ⟨g, 0, rfl, (Array.getElem?_eq_some_iff.1 hh).1, fun i hi => ?_⟩⟩
    obtain ⟨ai, ci, hv, hI, _⟩ := h i (by omega)
    refine ⟨ai, ci, ?_, hI⟩
    have e1 : w.cell? ⟨g, 0 + i, none⟩ = cur[i]? := by simp [World.cell?, hh]
    have e2 : cur[i]? = S[i]? := by
      rw [← htk, List.getElem?_take, if_pos (by omega)]
      simp
    rw [e1, e2, hv]
/-- Lists, whosever they are. -/
def GotRows (w w' : World) (v : Value) (xss : List (List Int)) : Prop := ∃ a cap, v = .slice a xss.length cap ∧ Rows w' a xss.length xss ∧ Keeps Non w w'
theorem getD_take {α : Type} {xs : List α} {d : α} {i k : Nat} (h : i < k) : (xs.take k).getD i d = xs.getD i d := by
  rw [List.getD_eq_getElem?_getD, List.getElem?_take, if_pos h, List.getD_eq_getElem?_getD]
set_option maxRecDepth 100000 in
set_option maxHeartbeats 4000000 in
theorem copied_l (a : Option Addr) (n cap : Nat) (xss : List (List Int)) (w : World) (h : Rows w a n xss) (hn : n ≤ 100000) (hl : ∀ i, (xss.getD i []).length ≤ 1000000) :
    Calls Try.prog 46 #[.slice a n cap] w fun e w' => ∃ v, e = .returned v ∧ GotRows w w' v xss := by
  obtain ⟨i0, hi, hz0, hz1, hz2⟩ := info22_parts
  have HX := hide h
  have HLn := hide hl
  clear h hl
  go_enter Try.func46, Try.ntmps46
  go_wp2_with fail
  obtain ⟨W, hW, hWk⟩ : ∃ W, w = W ∧ Keeps Non w W := ⟨w, rfl, Keeps.refl _ _⟩
  go_loopw [8, 3] (fun i v wr => ∃ (k : Nat) (S : List Value), k ≤ n ∧ i = .int .i64 k ∧ Hid (wr.ownsRow w.heap.size 22 1 v k S) ∧ Hid (Kids wr S (xss.take k) v.ownBlock) ∧ Hid (Keeps Non w wr)) (fun i _ _ => n - (intOf i).toNat)
  case atStart => exact ⟨0, [], Nat.zero_le _, rfl, World.ownsRow_nil _ _ _ _, (fun j hj => by simp at hj), Keeps.refl _ _⟩
  case round =>
    clear hW hWk
    obtain ⟨k, S, hk, rfl, HO, HKd, HK⟩ := hrel
    have hxl : xss.length = n := HX.out.len
    by_cases hlt : k < n
    · obtain ⟨b1, o1, rfl, hb1, hc1⟩ := (HX.out.non HK.out).at (by omega)
      obtain ⟨ai, ci, c1, hI⟩ := hc1 k hlt
      have hlk := HLn.out k
      obtain ⟨x, hx⟩ : ∃ x, xss.getD k [] = x := ⟨_, rfl⟩
      rw [hx] at c1 hI hlk
      have HC := hide (clone_own ai x.length ci x wr hI hlk)
      have HXx := hide hx
      obtain ⟨q, hq⟩ : ∃ q, x.length = q := ⟨_, rfl⟩
      have HQ := hide hq
      rw [hq] at c1 HC hlk
      have z0 : (0 : Int) ≤ (k : Int) := by omega
      have z1 : (k : Int) < (n : Int) := by omega
      clear hc1 hx hI hq hxl
      go_wp2_with fail
      refine HC.out.mono ?_
      rintro e w4 ⟨v4, rfl, ho4, hk4⟩
      obtain ⟨a4, c4, rfl⟩ := owns_slice ho4
      have HO4 := hide ho4
      have HK4 := hide hk4
      clear ho4 hk4
      go_wp2_with (at_builtin; refine wpList_append_own_at _ rfl _ _ 36 rfl w.heap.size 22 i0 (.slice none 0 0) 1 24 Try.underlying36 hi hz0 hz1 hz2 rfl (by decide) _ k S rfl (owns_keeps HO.out (HK4.out.alloc _) (fun _ _ x => x)) ⟨w4.heap.size, 0, none⟩ 1 1 [.slice a4 q c4] rfl ?qc1 ?qc2 ?qc3 ?qc4 ?qc5 ?qc6 ?_)
      case qc1 => rfl
      case qc2 => exact cell_one_new _ _ _
      case qc3 => intro u hu; simp at hu; subst hu; rfl
      case qc4 => unfold maxLen; omega
      case qc5 => omega
      case qc6 => simp; have := HK.out.size; have := HK4.out.size; omega
      intro v' w5 hown hgrow hnil hat
      have HO5 := hide hown
      have hkw5 := keeps_grown (Keeps.refl (fun b => some b = u3.ownBlock) (w4.alloc (.cells #[.slice a4 q c4] 22))) hgrow (fun g hg => .inl hg.symm)
      have HKd5 : Hid (Kids w5 (S ++ [.slice a4 q c4]) (xss.take (k + 1)) v'.ownBlock) := by
        intro j hj
        rw [List.length_take] at hj
        have hSl : S.length = k := by simpa using HO.out.1
        have hu3 := owns_lt HO.out
        by_cases hjk : j < k
        · obtain ⟨aj, cj, h1, h2, h3⟩ := HKd.out j (by rw [List.length_take]; omega)
          rw [getD_take (show j < k + 1 by omega)]
          rw [getD_take hjk] at h1 h2
          have h4 := h2.non (HK4.out.alloc (.cells #[.slice a4 q c4] 22))
          have h5 := h4.keeps hkw5 (fun b o e he => (h3 b o e).2 he.symm)
          have hsz : wr.heap.size ≤ w4.heap.size := HK4.out.size
          have hsz5 := hgrow.size
          rw [World.size_alloc] at hsz5
          refine ⟨aj, cj, by rw [List.getElem?_append_left (by omega)]; exact h1, h5, fun b o e => ?_⟩
          obtain ⟨h7, h8⟩ := h3 b o e
          refine ⟨by omega, fun he => ?_⟩
          rcases hat with h6 | h6
          · exact h8 (by rw [← h6]; exact he)
          · rw [h6] at he; try rw [World.size_alloc] at he
            cases he
            omega
        · obtain rfl : j = k := by omega
          have hxj : (xss.take (j + 1)).getD j [] = x := by rw [getD_take (show j < j + 1 by omega), HXx.out]
          rw [hxj, HQ.out]
          have hI4 := ints_of_owns HO4.out (by omega)
          obtain ⟨a9, c9, he9, hI9⟩ := hI4
          cases he9
          have hlt4 := owns_lt HO4.out
          have hsz5 := hgrow.size
          rw [World.size_alloc] at hsz5
          have hb4 : ∀ b o, a4 = some ⟨b, o, none⟩ → wr.heap.size ≤ b ∧ b < w4.heap.size := fun b o e => hlt4 b (by rw [e]; rfl)
          refine ⟨a4, c4, by rw [List.getElem?_append_right (by omega), hSl]; simp, ?_, fun b o e => ?_⟩
          · exact (hI9.non ((Keeps.refl Non w4).alloc _)).keeps hkw5 (fun b o e he => by
              have h1 := hb4 b o e
              have h2 := hu3 b he.symm
              omega)
          · have h1 := hb4 b o e
            refine ⟨by omega, fun he => ?_⟩
            rcases hat with h6 | h6
            · rw [h6] at he
              have h2 := hu3 b he
              omega
            · rw [h6] at he; try rw [World.size_alloc] at he
              cases he
              omega
      have HKn : Hid (Keeps Non w w5) := keeps_grown ((HK.out.then HK4.out).alloc _) hgrow (fun g hg => .inr (own_ge HO.out g hg))
      clear hown hgrow hnil hat
      go_wp2_with fail
      go_roundw
      case rel => exact ⟨k + 1, _, by omega, by go_num, HO5.out, HKd5.out, HKn.out⟩
      case measure => simp [intOf]; omega
    · obtain rfl : n = k := by omega
      have hKd := HKd.out
      rw [List.take_of_length_le (by omega)] at hKd
      obtain ⟨a6, c6, rfl, hR⟩ := kids_rows hKd HO.out hxl (by omega)
      have HE : Hid (GotRows w wr (.slice a6 n c6) xss) := ⟨a6, c6, by rw [hxl], by rw [hxl]; exact hR, HK.out⟩
      clear hKd hR hxl
      go_wp2_with fail
      go_ret
      exact ⟨_, rfl, HE.out⟩
end Go.Proofs.Ytkcbahfmdokalaa
