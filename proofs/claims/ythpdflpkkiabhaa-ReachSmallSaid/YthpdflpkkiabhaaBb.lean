/-
  lists, copied, rows of the own. No condition.
-/
import Derived.Test.YthpdflpkkiabhaaBa
import Derived.Maps.AppendAt
import Derived.Laws.MakeOwn
namespace Go.Proofs.Ythpdflpkkiabhaa
open Go.RowKit
attribute [local go_sem] onto_cell onto_frozen
set_option linter.unusedVariables false
/-
  Walks over layer 6: Members. No condition.
-/
theorem owns_lt {w : World} {B e n : Nat} {v : Value} {xs : List Value} (h : w.ownsRow B e 1 v n xs) : ∀ g, v.ownBlock = some g → B ≤ g ∧ g < w.heap.size := by
  obtain ⟨_, h2⟩ := h
  rcases h2 with ⟨rfl, rfl⟩ | ⟨g, cap, cur, rfl, hg, hh, _⟩
  · intro k hk; simp [Value.ownBlock] at hk
  · intro k hk
    simp only [Value.ownBlock, Option.some.injEq] at hk
    subst hk
    exact ⟨hg, (Array.getElem?_eq_some_iff.1 hh).1⟩
theorem owns_slice {w : World} {B e n : Nat} {v : Value} {xs : List Value} (h : w.ownsRow B e 1 v n xs) : ∃ a c, v = .slice a n c := by
  obtain ⟨_, h2⟩ := h
  rcases h2 with ⟨rfl, rfl⟩ | ⟨g, cap, cur, rfl, hg, hh, _⟩
  · exact ⟨_, _, rfl⟩
  · exact ⟨_, _, rfl⟩
theorem owns_of_block {w w' : World} {B e n : Nat} {v : Value} {xs : List Value} (h : w.ownsRow B e 1 v n xs) (hb : ∀ g, v.ownBlock = some g → w'.heap[g]? = w.heap[g]?) : w'.ownsRow B e 1 v n xs := by
  obtain ⟨hl, h2⟩ := h
  refine ⟨hl, h2.imp id ?_⟩
  rintro ⟨g, cap, cur, rfl, hg, hh, r⟩
  exact ⟨g, cap, cur, rfl, hg, (hb g rfl).trans hh, r⟩
/-- Rows of the call's own, in a row of its own, no two of which lie in one block. -/
structure RowsAt (w : World) (B : Nat) (S : List Value) (xss : List (List Int)) : Prop where
  blk : Blk w B S 25
  len : S.length = xss.length
  row : ∀ i, i < xss.length → ∃ v, S[i]? = some v ∧ w.ownsRow (B + 1) 3 1 v (xss.getD i []).length ((xss.getD i []).map (Value.int .i64))
  apart : ∀ (i j : Nat) (v v' : Value), i ≠ j → S[i]? = some v → S[j]? = some v' → ∀ g, v.ownBlock = some g → v'.ownBlock ≠ some g
theorem RowsAt.keeps {w w' : World} {B : Nat} {S : List Value} {xss : List (List Int)} (h : RowsAt w B S xss) (k : Keeps Non w w') : RowsAt w' B S xss :=
  ⟨h.blk.keeps k (fun x => x), h.len, fun i hi => by
    obtain ⟨v, h1, h2⟩ := h.row i hi
    exact ⟨v, h1, owns_keeps h2 k (fun _ _ x => x)⟩, h.apart⟩
theorem RowsAt.rows {w : World} {B : Nat} {S : List Value} {xss : List (List Int)} (h : RowsAt w B S xss) (h1 : xss.length ≤ 17592186044416) (h2 : ∀ i, (xss.getD i []).length ≤ 17592186044416) : Rows w (some ⟨B, 0, none⟩) xss.length xss :=
  ⟨rfl, h1, .inr ⟨B, 0, rfl, h.blk.lt, fun i hi => by
    obtain ⟨v, hv, ho⟩ := h.row i hi
    obtain ⟨a, cap, rfl, hI⟩ := ints_of_owns ho (h2 i)
    refine ⟨a, cap, ?_, hI⟩
    rw [h.blk.cell, Nat.zero_add]
    exact hv⟩⟩
theorem getD_set {α : Type} {xs : List α} {d x : α} {i j : Nat} (h : i < xs.length) : (xs.set i x).getD j d = if i = j then x else xs.getD j d := by
  rw [List.getD_eq_getElem?_getD, List.getElem?_set, List.getD_eq_getElem?_getD]
  by_cases hij : i = j
  · subst hij
    rw [if_pos rfl, if_pos h, if_pos rfl]
    rfl
  · rw [if_neg hij, if_neg hij]
/-- One row is made anew. -/
theorem RowsAt.put {w w1 w2 : World} {B : Nat} {S : List Value} {xss : List (List Int)} (h : RowsAt w B S xss) {b : Nat} (hb : b < xss.length) {v v' : Value} (hv : S[b]? = some v) (k : Keeps Non w w1) {ys : List Int}
    (hown : w2.ownsRow (B + 1) 3 1 v' ys.length (ys.map (Value.int .i64))) (hgrow : w1.grownBy w2 v.ownBlock) (hat : v'.ownBlock = v.ownBlock ∨ (∀ g, v'.ownBlock = some g → w.heap.size ≤ g)) :
    RowsAt (w2.setCell ⟨B, b, none⟩ v') B (S.set b v') (xss.set b ys) := by
  have hbl : b < S.length := by rw [h.len]; exact hb
  obtain ⟨v0, hv0, ho0⟩ := h.row b hb
  rw [hv] at hv0
  cases hv0
  have hvl := owns_lt ho0
  have hB2 : Blk w2 B S 25 := (h.blk.keeps k (fun x => x)).of_eq (hgrow.block B (h.blk.keeps k (fun x => x)).lt (fun e => by
    have := hvl B e.symm
    omega))
  refine ⟨hB2.store b v', by simp [h.len], fun i hi => ?_, fun i j x y hij hx hy g hg hg2 => ?_⟩
  · rw [List.length_set] at hi
    rw [getD_set hb]
    by_cases hbi : b = i
    · subst hbi
      refine ⟨v', by simp [hbl], ?_⟩
      rw [if_pos rfl]
      refine owns_of_block hown fun g hg => ?_
      have := owns_lt hown g hg
      exact Below.heap_setCell _ _ _ _ (by show g ≠ B; omega)
    · rw [if_neg hbi]
      obtain ⟨u, hu, ho⟩ := h.row i hi
      refine ⟨u, by rw [List.getElem?_set, if_neg hbi]; exact hu, ?_⟩
      refine owns_of_block ho fun g hg => ?_
      have h1 := owns_lt ho g hg
      have h2 : w2.heap[g]? = w1.heap[g]? := hgrow.block g (Nat.lt_of_lt_of_le h1.2 k.size) (fun e => h.apart b i v u hbi hv hu g e.symm hg)
      rw [Below.heap_setCell _ _ _ _ (by show g ≠ B; omega), h2]
      exact k.block g h1.2 (fun x => x)
  · rw [List.getElem?_set] at hx hy
    by_cases hbi : b = i
    · subst hbi
      rw [if_pos rfl, if_pos hbl] at hx
      cases hx
      rw [if_neg hij] at hy
      rcases hat with h1 | h1
      · exact h.apart b j v y hij hv hy g (by rw [← h1]; exact hg) hg2
      · have h2 := h1 g hg
        obtain ⟨y0, hy0, hoy⟩ := h.row j (by
          have := (List.getElem?_eq_some_iff.1 hy).1
          rw [← h.len]
          exact this)
        rw [hy] at hy0
        cases hy0
        have := owns_lt hoy g hg2
        omega
    · rw [if_neg hbi] at hx
      by_cases hbj : b = j
      · subst hbj
        rw [if_pos rfl, if_pos hbl] at hy
        cases hy
        rcases hat with h1 | h1
        · exact h.apart i b x v hij hx hv g hg (by rw [← h1]; exact hg2)
        · have h2 := h1 g hg2
          obtain ⟨x0, hx0, hox⟩ := h.row i (by
            have := (List.getElem?_eq_some_iff.1 hx).1
            rw [← h.len]
            exact this)
          rw [hx] at hx0
          cases hx0
          have := owns_lt hox g hg
          omega
      · rw [if_neg hbj] at hy
        exact h.apart i j x y hij hx hy g hg hg2
/-- Lists of a call's own that come back. -/
def NewRows (w w' : World) (v : Value) (xss : List (List Int)) : Prop := ∃ B S, v = .slice (some ⟨B, 0, none⟩) xss.length xss.length ∧ w.heap.size ≤ B ∧ RowsAt w' B S xss ∧ Keeps Non w w'
theorem info25 : (Try.prog.info? 25).map (fun i => (i.zero, i.size, i.bytes)) = some (some (.slice none 0 0), 1, 24) := by kernel_rfl
theorem info25_parts : ∃ i, Try.prog.info? 25 = some i ∧ i.zero = some (.slice none 0 0) ∧ i.size = 1 ∧ i.bytes = 24 := by
  have h := info25
  cases hq : Try.prog.info? 25 with
  | none => rw [hq] at h; simp at h
  | some i =>
    rw [hq] at h
    simp only [Option.map_some, Option.some.injEq, Prod.mk.injEq] at h
    exact ⟨i, rfl, h.1, h.2.1, h.2.2⟩
theorem make23 (w : World) (n : Nat) (hn : n ≤ 100000) : (Instr.makeSlice 23 (.int .i64 (n : Int)) (.int .i64 (n : Int))).run Try.prog w = .ok (.slice (some ⟨w.heap.size, 0, none⟩) n n) (w.alloc (.cells (List.replicate n (Value.slice none 0 0)).toArray 25)) := by
  obtain ⟨i, h1, h2, h3, h4⟩ := info25_parts
  have := run_makeSlice (P := Try.prog) w 23 25 i (.slice none 0 0) Try.underlying23 h1 h2 .i64 .i64 (n : Int) (n : Int) (by omega) (by omega) (by rw [h3]; simp; omega) (by rw [h4]; simp; omega) (by omega)
  rw [this, h3]
  simp only [Int.toNat_natCast, Nat.mul_one]
  rw [show (Value.slice none 0 0).cells = #[.slice none 0 0] from rfl, made_list]
theorem rowsAt_made (w : World) {n B : Nat} (hB : w.heap.size = B) : RowsAt (w.alloc (.cells (List.replicate n (Value.slice none 0 0)).toArray 25)) B (List.replicate n (Value.slice none 0 0)) (List.replicate n []) := by
  refine ⟨Blk.newAt w _ 25 hB.symm, by simp, fun i hi => ?_, fun i j v v' _ hi _ g hg => ?_⟩
  · rw [List.length_replicate] at hi
    refine ⟨.slice none 0 0, by rw [List.getElem?_replicate, if_pos hi], ?_⟩
    have e : (List.replicate n ([] : List Int)).getD i [] = [] := by
      rw [List.getD_eq_getElem?_getD, List.getElem?_replicate, if_pos hi]
      rfl
    rw [e]
    exact World.ownsRow_nil _ _ _ _
  · rw [List.getElem?_replicate] at hi
    split at hi
    · cases hi
      simp [Value.ownBlock] at hg
    · cases hi
/-
  Walks over layer 6's statements: lists, copied, few. No condition.
-/
theorem eq_of_getDL {α : Type} {xs ys : List α} (d : α) (hl : xs.length = ys.length) (h : ∀ j, j < xs.length → xs.getD j d = ys.getD j d) : xs = ys := by
  apply List.ext_getElem hl
  intro i h1 h2
  have := h i h1
  rwa [getD_numL h1, getD_numL h2] at this
theorem ent25 : Ent 25 := ent_of Try.func25 (by decide) rfl
set_option maxHeartbeats 2000000 in
theorem eqrows_l (a : Option Addr) (n cap : Nat) (xs : List (List Int)) (b : Option Addr) (m cap2 : Nat) (ys : List (List Int)) (w : World) (h : Rows w a n xs) (h2 : Rows w b m ys) :
    Calls Try.prog 64 #[.slice a n cap, .slice b m cap2, .func (.func 25) #[] #[]] w fun e w' => e = .returned (.bool (decide (xs = ys))) ∧ Keeps Non w w' := by
  have hn := h.big
  have hm := h2.big
  have hlx := hide h.len
  have hly := hide h2.len
  by_cases hnm : n = m
  · subst hnm
    have HX := hide h
    have HY := hide h2
    clear h h2
    go_enter Try.func64, Try.ntmps64
    go_wp2_with fail
    obtain ⟨W, hW, hWk⟩ : ∃ W, w = W ∧ Keeps Non w W := ⟨w, rfl, Keeps.refl _ _⟩
    go_loopw [17] (fun i wr => ∃ k : Nat, k ≤ n ∧ i = .int .i64 k ∧ Hid (Keeps Non w wr) ∧ Hid (∀ j, j < k → xs.getD j [] = ys.getD j [])) (fun i _ => n - (intOf i).toNat)
    case atStart => exact ⟨0, Nat.zero_le _, rfl, Keeps.refl _ _, fun j hj => by omega⟩
    case round =>
      clear hW hWk
      obtain ⟨k, hk, rfl, HK, HA⟩ := hrel
      by_cases hlt : k < n
      · obtain ⟨b1, o1, rfl, hb1, hc1⟩ := (HX.out.non HK.out).at (by omega)
        obtain ⟨b2, o2, rfl, hb2, hc2⟩ := (HY.out.non HK.out).at (by omega)
        obtain ⟨a1, q1, c1, hI1⟩ := hc1 k hlt
        obtain ⟨a2, q2, c2, hI2⟩ := hc2 k hlt
        obtain ⟨x, hx⟩ : ∃ x, xs.getD k [] = x := ⟨_, rfl⟩
        obtain ⟨y, hy⟩ : ∃ y, ys.getD k [] = y := ⟨_, rfl⟩
        rw [hx] at c1 hI1
        rw [hy] at c2 hI2
        have hE := equal_any _ _ q1 x _ _ q2 y wr hI1 hI2
        have HXY := hide (And.intro hx hy)
        obtain ⟨lx, hlx2⟩ : ∃ l, x.length = l := ⟨_, rfl⟩
        obtain ⟨ly, hly2⟩ : ∃ l, y.length = l := ⟨_, rfl⟩
        rw [hlx2] at c1 hE
        rw [hly2] at c2 hE
        have z0 : (0 : Int) ≤ (k : Int) := by omega
        have z1 : (k : Int) < (n : Int) := by omega
        clear hc1 hc2 hx hy hI1 hI2 hlx2 hly2
        by_cases hxy : x = y
        · rw [decide_eq_true hxy] at hE
          have HE := hide hE
          have HQ := hide hxy
          clear hE hxy
          go_wp2_with fail
          refine HE.out.mono ?_
          rintro e w4 ⟨rfl, hk4⟩
          have HK4 := hide (HK.out.then hk4)
          clear hk4
          go_wp2_with fail
          go_roundw
          case rel => exact ⟨k + 1, by omega, by go_num, HK4.out, fun j hj => by
            rcases Nat.lt_succ_iff_lt_or_eq.1 hj with h | rfl
            · exact HA.out j h
            · rw [HXY.out.1, HXY.out.2, HQ.out]⟩
          case measure => simp [intOf]; omega
        · rw [decide_eq_false hxy] at hE
          have HE := hide hE
          have hne : Hid (decide (xs = ys) = false) := by
            unfold Hid
            simp only [decide_eq_false_iff_not]
            intro he
            exact hxy (by rw [← HXY.out.1, ← HXY.out.2, he])
          clear hE hxy
          go_wp2_with fail
          refine HE.out.mono ?_
          rintro e w4 ⟨rfl, hk4⟩
          have HK4 := hide (HK.out.then hk4)
          clear hk4
          go_wp2_with fail
          try rw [Exit.noGoto_ret]
          go_ret
          exact ⟨ret_bool hne.out.symm, HK4.out⟩
      · have heq : Hid (decide (xs = ys) = true) := by
          unfold Hid
          simp only [decide_eq_true_eq]
          exact eq_of_getDL [] (by rw [hlx.out, hly.out]) (fun j hj => HA.out j (by rw [hlx.out] at hj; omega))
        go_wp2_with fail
        try rw [Exit.noGoto_ret]
        go_ret
        exact ⟨ret_bool heq.out.symm, HK.out⟩
  · have hnm' : ((n : Int) != (m : Int)) = true := by simp; omega
    have hne : Hid (decide (xs = ys) = false) := by
      unfold Hid
      simp only [decide_eq_false_iff_not]
      intro he
      exact hnm (by rw [← hlx.out, ← hly.out, he])
    clear h h2 hnm
    go_enter Try.func64, Try.ntmps64
    go_wp2_with fail
    go_ret
    exact ⟨ret_bool hne.out.symm, Keeps.refl _ _⟩
theorem lists_l (a : Option Addr) (n cap : Nat) (xs : List (List Int)) (b : Option Addr) (m cap2 : Nat) (ys : List (List Int)) (w : World) (h : Rows w a n xs) (h2 : Rows w b m ys) :
    Calls Try.prog 41 #[.slice a n cap, .slice b m cap2] w fun e w' => e = .returned (.bool (decide (xs = ys))) ∧ Keeps Non w w' := by
  have HE := hide (eqrows_l a n cap xs b m cap2 ys w h h2)
  obtain ⟨v, hv⟩ : ∃ v, decide (xs = ys) = v := ⟨_, rfl⟩
  rw [hv] at HE ⊢
  clear h h2 hv
  go_enter Try.func41, Try.ntmps41
  go_wp2_with fail
  refine HE.out.mono ?_
  rintro e w2 ⟨rfl, hk⟩
  go_wp2_with fail
  go_ret
  exact ⟨rfl, hk⟩
theorem clone_own (a : Option Addr) (n cap : Nat) (xs : List Int) (w : World) (h : Ints w a n xs) (hn : n ≤ 1000000) :
    Calls Try.prog 40 #[.slice a n cap] w fun e w' => ∃ v, e = .returned v ∧ w'.ownsRow w.heap.size 3 1 v n (xs.map (Value.int .i64)) ∧ Keeps Non w w' := by
  obtain rfl := h.len
  cases a with
  | none =>
    have h0 : xs.length = 0 := by
      rcases h.cell with h1 | ⟨b, off, h1, _⟩
      · exact h1
      · cases h1
    refine (Try.slices_Clone_int_nil xs.length cap w).mono ?_
    rintro e w' ⟨rfl, rfl⟩
    have hx : xs = [] := List.eq_nil_of_length_eq_zero h0
    subst hx
    exact ⟨_, rfl, World.ownsRow_nil _ _ _ _, Keeps.refl _ _⟩
  | some ad =>
    by_cases h0 : xs.length = 0
    · have hx : xs = [] := List.eq_nil_of_length_eq_zero h0
      subst hx
      refine (Try.slices_Clone_int_zero ad cap w).mono ?_
      rintro e w' ⟨v, rfl, ho, _, hb⟩
      exact ⟨_, rfl, ho, Keeps.of_below Non hb⟩
    · obtain ⟨b, off, hab, hb, hc⟩ := h.at (by omega)
      cases hab
      refine (Try.slices_Clone_int b off xs.length cap xs w (Nat.le_refl _) (by omega) (fun j hj => hc j hj)).mono ?_
      rintro e w' ⟨v, rfl, ho, _, hbl⟩
      rw [List.take_length] at ho
      exact ⟨_, rfl, ho, Keeps.of_below Non hbl⟩
/-- Slices of a row, none of which lies in the row's own block. -/
def Kids (w : World) (S : List Value) (xss : List (List Int)) (row : Option Nat) : Prop := ∀ j, j < xss.length → ∃ ai ci, S[j]? = some (.slice ai (xss.getD j []).length ci) ∧ Ints w ai (xss.getD j []).length (xss.getD j []) ∧ ∀ b o, ai = some ⟨b, o, none⟩ → b < w.heap.size ∧ row ≠ some b
theorem kids_rows {w : World} {S : List Value} {xss : List (List Int)} {row : Option Nat} {B e n : Nat} {v : Value} (h : Kids w S xss row) (ho : w.ownsRow B e 1 v n S) (hn : xss.length = n) (hb : n ≤ 17592186044416) : ∃ a cap, v = .slice a n cap ∧ Rows w a n xss := by
  obtain ⟨hl, h2⟩ := ho
  have hlen : S.length = n := by simpa using hl
  rcases h2 with ⟨rfl, rfl⟩ | ⟨g, cap, cur, rfl, hg, hh, hnc, hcm, hsz, htk⟩
  · exact ⟨none, 0, rfl, hn, hb, .inl rfl⟩
  · refine ⟨some ⟨g, 0, none⟩, cap, rfl, hn, hb, .inr ⟨g, 0, rfl, (Array.getElem?_eq_some_iff.1 hh).1, fun i hi => ?_⟩⟩
    obtain ⟨ai, ci, hv, hI, _⟩ := h i (by omega)
    refine ⟨ai, ci, ?_, hI⟩
    have e1 : w.cell? ⟨g, 0 + i, none⟩ = cur[i]? := by simp [World.cell?, hh]
    have e2 : cur[i]? = S[i]? := by
      rw [← htk, List.getElem?_take, if_pos (by omega)]
      simp
    rw [e1, e2, hv]
/-- Lists, whosever they are. -/
def GotRows (w w' : World) (v : Value) (xss : List (List Int)) : Prop := ∃ a cap, v = .slice a xss.length cap ∧ Rows w' a xss.length xss ∧ Keeps Non w w'
theorem getD_take {α : Type} {xs : List α} {d : α} {i k : Nat} (h : i < k) : (xs.take k).getD i d = xs.getD i d := by
  rw [List.getD_eq_getElem?_getD, List.getElem?_take, if_pos h, List.getD_eq_getElem?_getD]
set_option maxRecDepth 100000 in
set_option maxHeartbeats 4000000 in
theorem copied_l (a : Option Addr) (n cap : Nat) (xss : List (List Int)) (w : World) (h : Rows w a n xss) (hn : n ≤ 100000) (hl : ∀ i, (xss.getD i []).length ≤ 1000000) :
    Calls Try.prog 38 #[.slice a n cap] w fun e w' => ∃ v, e = .returned v ∧ GotRows w w' v xss := by
  obtain ⟨i0, hi, hz0, hz1, hz2⟩ := info25_parts
  have HX := hide h
  have HLn := hide hl
  clear h hl
  go_enter Try.func38, Try.ntmps38
  go_wp2_with fail
  obtain ⟨W, hW, hWk⟩ : ∃ W, w = W ∧ Keeps Non w W := ⟨w, rfl, Keeps.refl _ _⟩
  go_loopw [8, 3] (fun i v wr => ∃ (k : Nat) (S : List Value), k ≤ n ∧ i = .int .i64 k ∧ Hid (wr.ownsRow w.heap.size 25 1 v k S) ∧ Hid (Kids wr S (xss.take k) v.ownBlock) ∧ Hid (Keeps Non w wr)) (fun i _ _ => n - (intOf i).toNat)
  case atStart => exact ⟨0, [], Nat.zero_le _, rfl, World.ownsRow_nil _ _ _ _, (fun j hj => by simp at hj), Keeps.refl _ _⟩
  case round =>
    clear hW hWk
    obtain ⟨k, S, hk, rfl, HO, HKd, HK⟩ := hrel
    have hxl : xss.length = n := HX.out.len
    by_cases hlt : k < n
    · obtain ⟨b1, o1, rfl, hb1, hc1⟩ := (HX.out.non HK.out).at (by omega)
      obtain ⟨ai, ci, c1, hI⟩ := hc1 k hlt
      have hlk := HLn.out k
      obtain ⟨x, hx⟩ : ∃ x, xss.getD k [] = x := ⟨_, rfl⟩
      rw [hx] at c1 hI hlk
      have HC := hide (clone_own ai x.length ci x wr hI hlk)
      have HXx := hide hx
      obtain ⟨q, hq⟩ : ∃ q, x.length = q := ⟨_, rfl⟩
      have HQ := hide hq
      rw [hq] at c1 HC hlk
      have z0 : (0 : Int) ≤ (k : Int) := by omega
      have z1 : (k : Int) < (n : Int) := by omega
      clear hc1 hx hI hq hxl
      go_wp2_with fail
      refine HC.out.mono ?_
      rintro e w4 ⟨v4, rfl, ho4, hk4⟩
      obtain ⟨a4, c4, rfl⟩ := owns_slice ho4
      have HO4 := hide ho4
      have HK4 := hide hk4
      clear ho4 hk4
      go_wp2_with (at_builtin; refine wpList_append_own_at _ rfl _ _ 23 rfl w.heap.size 25 i0 (.slice none 0 0) 1 24 Try.underlying23 hi hz0 hz1 hz2 rfl (by decide) _ k S rfl (owns_keeps HO.out (HK4.out.alloc _) (fun _ _ x => x)) ⟨w4.heap.size, 0, none⟩ 1 1 [.slice a4 q c4] rfl ?qc1 ?qc2 ?qc3 ?qc4 ?qc5 ?qc6 ?_)
      case qc1 => rfl
      case qc2 => exact cell_one_new _ _ _
      case qc3 => intro u hu; simp at hu; subst hu; rfl
      case qc4 => unfold maxLen; omega
      case qc5 => omega
      case qc6 => simp; have := HK.out.size; have := HK4.out.size; omega
      intro v' w5 hown hgrow hnil hat
      have HO5 := hide hown
      have hkw5 := keeps_grown (Keeps.refl (fun b => some b = u3.ownBlock) (w4.alloc (.cells #[.slice a4 q c4] 25))) hgrow (fun g hg => .inl hg.symm)
      have HKd5 : Hid (Kids w5 (S ++ [.slice a4 q c4]) (xss.take (k + 1)) v'.ownBlock) := by
        intro j hj
        rw [List.length_take] at hj
        have hSl : S.length = k := by simpa using HO.out.1
        have hu3 := owns_lt HO.out
        by_cases hjk : j < k
        · obtain ⟨aj, cj, h1, h2, h3⟩ := HKd.out j (by rw [List.length_take]; omega)
          rw [getD_take (show j < k + 1 by omega)]
          rw [getD_take hjk] at h1 h2
          have h4 := h2.non (HK4.out.alloc (.cells #[.slice a4 q c4] 25))
          have h5 := h4.keeps hkw5 (fun b o e he => (h3 b o e).2 he.symm)
          have hsz : wr.heap.size ≤ w4.heap.size := HK4.out.size
          have hsz5 := hgrow.size
          rw [World.size_alloc] at hsz5
          refine ⟨aj, cj, by rw [List.getElem?_append_left (by omega)]; exact h1, h5, fun b o e => ?_⟩
          obtain ⟨h7, h8⟩ := h3 b o e
          refine ⟨by omega, fun he => ?_⟩
          rcases hat with h6 | h6
          · exact h8 (by rw [← h6]; exact he)
          · rw [h6] at he; try rw [World.size_alloc] at he
            cases he
            omega
        · obtain rfl : j = k := by omega
          have hxj : (xss.take (j + 1)).getD j [] = x := by rw [getD_take (show j < j + 1 by omega), HXx.out]
          rw [hxj, HQ.out]
          have hI4 := ints_of_owns HO4.out (by omega)
          obtain ⟨a9, c9, he9, hI9⟩ := hI4
          cases he9
          have hlt4 := owns_lt HO4.out
          have hsz5 := hgrow.size
          rw [World.size_alloc] at hsz5
          have hb4 : ∀ b o, a4 = some ⟨b, o, none⟩ → wr.heap.size ≤ b ∧ b < w4.heap.size := fun b o e => hlt4 b (by rw [e]; rfl)
          refine ⟨a4, c4, by rw [List.getElem?_append_right (by omega), hSl]; simp, ?_, fun b o e => ?_⟩
          · exact (hI9.non ((Keeps.refl Non w4).alloc _)).keeps hkw5 (fun b o e he => by
              have h1 := hb4 b o e
              have h2 := hu3 b he.symm
              omega)
          · have h1 := hb4 b o e
            refine ⟨by omega, fun he => ?_⟩
            rcases hat with h6 | h6
            · rw [h6] at he
              have h2 := hu3 b he
              omega
            · rw [h6] at he; try rw [World.size_alloc] at he
              cases he
              omega
      have HKn : Hid (Keeps Non w w5) := keeps_grown ((HK.out.then HK4.out).alloc _) hgrow (fun g hg => .inr (own_ge HO.out g hg))
      clear hown hgrow hnil hat
      go_wp2_with fail
      go_roundw
      case rel => exact ⟨k + 1, _, by omega, by go_num, HO5.out, HKd5.out, HKn.out⟩
      case measure => simp [intOf]; omega
    · obtain rfl : n = k := by omega
      have hKd := HKd.out
      rw [List.take_of_length_le (by omega)] at hKd
      obtain ⟨a6, c6, rfl, hR⟩ := kids_rows hKd HO.out hxl (by omega)
      have HE : Hid (GotRows w wr (.slice a6 n c6) xss) := ⟨a6, c6, by rw [hxl], by rw [hxl]; exact hR, HK.out⟩
      clear hKd hR hxl
      go_wp2_with fail
      go_ret
      exact ⟨_, rfl, HE.out⟩
/-
  Walks over layer 6: Meet, Finer. No condition.
-/
theorem NewInts.ints {w w' : World} {v : Value} {xs : List Int} (h : NewInts w w' v xs) (hb : xs.length ≤ 17592186044416) : ∃ b, v = .slice (some ⟨b, 0, none⟩) xs.length xs.length ∧ w.heap.size ≤ b ∧ Ints w' (some ⟨b, 0, none⟩) xs.length xs ∧ Keeps Non w w' := by
  obtain ⟨b, h1, h2, h3, h4⟩ := h
  exact ⟨b, h1, h2, ints_of_blk h3 hb, h4⟩
/-- A row of numbers, each told by its place. -/
def rowF (m : Nat) (f : Nat → Int) : List Value := (List.range m).map fun j => .int .i64 (f j)
theorem rowF_length (m : Nat) (f : Nat → Int) : (rowF m f).length = m := by simp [rowF]
theorem rowF_at {m : Nat} (f : Nat → Int) {i : Nat} (h : i < m) : (rowF m f)[i]? = some (.int .i64 (f i)) := by simp [rowF, h]
theorem rowF_congr {m : Nat} {f g : Nat → Int} (h : ∀ j, j < m → f j = g j) : rowF m f = rowF m g := by
  unfold rowF
  exact List.map_congr_left fun j hj => by rw [h j (List.mem_range.1 hj)]
theorem rowF_set {m : Nat} (f : Nat → Int) (i : Nat) (v : Int) : (rowF m f).set i (.int .i64 v) = rowF m (fun j => if j = i then v else f j) := by
  apply List.ext_getElem?
  intro j
  rw [List.getElem?_set]
  by_cases hj : i = j
  · subst hj
    rw [rowF_length]
    by_cases h : i < m
    · rw [if_pos rfl, if_pos h, rowF_at _ h, if_pos rfl]
    · rw [if_pos rfl, if_neg h, List.getElem?_eq_none (by rw [rowF_length]; omega)]
  · rw [if_neg hj]
    by_cases h : j < m
    · rw [rowF_at _ h, rowF_at _ h, if_neg (fun e => hj e.symm)]
    · rw [List.getElem?_eq_none (by rw [rowF_length]; omega), List.getElem?_eq_none (by rw [rowF_length]; omega)]
theorem rowF_zero (m : Nat) : rowF m (fun _ => 0) = List.replicate m (.int .i64 0) := by
  apply List.ext_getElem?
  intro j
  by_cases h : j < m
  · rw [rowF_at _ h, List.getElem?_replicate, if_pos h]
  · rw [List.getElem?_eq_none (by rw [rowF_length]; omega), List.getElem?_eq_none (by simp; omega)]
/-
  Walks over layer 6's statements: Follows. No condition.
-/
/-- One appended to a row of the call's own, at a step of a region that draws. -/
theorem step_append_at {P : Program} {w : World} {ops : Array Oper} {o : Oper} {a : Act} {K : Act → World → Prop} {Q : Exit → Act → World → Prop} {E : Prop} (hgd : o.guard = none) (s x : Operand) (t : TypeId)
    (ho : o.op = .call { callee := .builtin .append, args := #[s, x], argTypes := #[t, t] })
    (base : Nat) (e : TypeId) (i : TypeInfo) (z : Value) (size bytes : Nat) (ht : P.underlying t = some (.slice e)) (hi : P.info? e = some i) (hz : i.zero = some z)
    (hsize : i.size = size) (hby : i.bytes = bytes) (hzs : z.cells.size = size) (hsz : 0 < size)
    (v : Value) (n : Nat) (xs : List Value) (hs : a.eval s = v) (hown : w.ownsRow base e size v n xs)
    (ad : Addr) (m c : Nat) (news : List Value) (hx : a.eval x = .slice (some ad) m c) (hl : news.length = m * size) (hnews : ∀ j u, news[j]? = some u → w.cell? (ad.add j) = some u) (h1 : ∀ u ∈ news, u.oneCell' = true)
    (h63 : n + m ≤ maxLen) (hbytes : (n + m) * bytes ≤ 140737488355328) (hbase : base ≤ w.heap.size)
    (h : ∀ v' w', w'.ownsRow base e size v' (n + m) (xs ++ news) → w.grownBy w' v.ownBlock → (v'.ownBlock = v.ownBlock ∨ v'.ownBlock = some w.heap.size) → K (a.put o.dst v') w') :
    if Region.wanted o (yielded ops a.tmps) = true then Oper.wp P o a w K Q else E := by
  have hw : Region.wanted o (yielded ops a.tmps) = true := by simp [Region.wanted, hgd]
  rw [if_pos hw]
  obtain ⟨v', w', hr, h2, h3, h4, h5⟩ := run_append_own_at (P := P) w base t o.type e i z size bytes ht hi hz hsize hby hzs hsz v n xs hown ad m c news hl hnews h1 h63 hbytes hbase
  unfold Oper.wp execOp
  simp only [ho, resolve, invoke, builtin, Sem.run_bind, Sem.run_pure, Result.andThen_ok, List.map_toArray, List.map_cons, List.map_nil, hs, hx, hr]
  exact h v' w' h2 h3 h5
theorem ext_getDL {α : Type} {xs ys : List α} (d : α) (hl : xs.length = ys.length) (h : ∀ j, j < xs.length → xs.getD j d = ys.getD j d) : xs = ys := by
  apply List.ext_getElem hl
  intro i h1 h2
  have := h i h1
  rwa [getD_numL h1, getD_numL h2] at this
theorem take_pre {xs : List Int} {i m : Nat} (h : i < m) : (xs.take m).getD i 0 = xs.getD i 0 := by
  rw [List.getD_eq_getElem?_getD, List.getElem?_take, if_pos h, List.getD_eq_getElem?_getD]
theorem Byts.pre {w : World} {a : Option Addr} {n m : Nat} {xs : List Int} (h : Byts w a n xs) (hm : m ≤ n) : Byts w a m (xs.take m) :=
  ⟨by rw [List.length_take, h.len]; omega, Nat.le_trans hm h.big, by
    by_cases h0 : m = 0
    · exact .inl h0
    · obtain ⟨b, off, ha, hb, hc⟩ := h.at (by omega)
      exact .inr ⟨b, off, ha, hb, fun i hi => by rw [hc i (by omega), take_pre hi]⟩, fun i => by
    by_cases hi : i < m
    · rw [take_pre hi]; exact h.bd i
    · rw [List.getD_eq_getElem?_getD, List.getElem?_eq_none (by rw [List.length_take]; omega)]
      simp⟩
end Go.Proofs.Ythpdflpkkiabhaa
