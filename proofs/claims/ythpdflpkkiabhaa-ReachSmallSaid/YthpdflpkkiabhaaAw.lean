/-
  Walks over layer 7's statements: awake. No condition.
-/
import Derived.Test.YthpdflpkkiabhaaMu
import Derived.Test.YthpdflpkkiabhaaOn
namespace Go.Proofs.Ythpdflpkkiabhaa
open Go.RowKit
attribute [local go_sem] onto_cell onto_frozen
set_option linter.unusedVariables false
def aN : List (List Int) := [[1, 2], [3], [3], [], [0]]
def aN2 : List (List Int) := [[1, 2], [3], [3], [0], [0]]
theorem v_from : fromL aN 5 0 = [0, 1, 2, 3] := by decide +kernel
theorem v_ways : waysL aN 5 0 = [0, 1, 1, 2, -1] := by decide +kernel
theorem v_back : backL aN 5 = [[4], [0], [0], [1, 2], []] := by decide +kernel
theorem v_rings : ringsL aN 5 = [0, 1, 2, 3, 4] := by decide +kernel
theorem v_rings2 : ringsL aN2 5 = [0, 0, 0, 0, 1] := by decide +kernel
theorem v_musts : mustsL aN 5 0 = [[0], [0, 1], [0, 2], [0, 3], []] := by decide +kernel
theorem v_only : onlyL aN [3, 1] = [[], [0]] := by decide +kernel
theorem v_onlyE : onlyE aN [3, 1] = 0 := by decide +kernel
theorem v_ck : checkB aN = true := by decide +kernel
theorem v_ck2 : checkB aN2 = true := by decide +kernel
theorem sort_of {l : List Int} (h : l.Pairwise (fun a b => decide (a ≤ b) = true)) : sortL l = l := List.mergeSort_of_pairwise h
theorem v_cl : closureL aN 5 [2] = [2, 3] := by
  unfold closureL
  rw [show (foundL (succL aN) (-1) 5 [2]).map Prod.fst = [2, 3] by decide +kernel]
  exact sort_of (by decide)
theorem v_cd1 : closedB aN 5 [1, 3] = true := by
  unfold closedB closureL
  rw [show (foundL (succL aN) (-1) 5 [1, 3]).map Prod.fst = [1, 3] by decide +kernel, sort_of (l := [1, 3]) (by decide)]
  decide +kernel
theorem v_cd2 : closedB aN 5 [1] = false := by
  unfold closedB closureL
  rw [show (foundL (succL aN) (-1) 5 [1]).map Prod.fst = [1, 3] by decide +kernel, sort_of (l := [1, 3]) (by decide), sort_of (l := [1]) (by decide)]
  decide +kernel
theorem eq_lit (u : World) (a : Option Addr) (n c : Nat) (xs : List Int) (hl : xs.length = n) (hn : n ≤ 1000) (hI : Ints u a n xs) :
    Calls Try.prog 25 #[.slice a n c, .slice (some ⟨u.heap.size, 0, none⟩) n n] (u.alloc (.cells (xs.map (Value.int .i64)).toArray 3)) fun e w' => e = .returned (.bool true) ∧ Keeps Non u w' := by
  subst hl
  have h2 := ints_laid u xs rfl (by omega)
  exact (equal_any a xs.length c xs _ xs.length xs.length xs _ (hI.non ((Keeps.refl Non u).alloc _)) h2).mono fun e w' ⟨h1, h4⟩ => ⟨by rw [h1, decide_eq_true rfl], ((Keeps.refl Non u).alloc _).then h4⟩
/-- The edges of the example, as they lie. -/
structure NX (w : World) (N B : Nat) : Prop where
  blk : Blk w N [.slice (some ⟨B, 0, none⟩) 2 2, .slice (some ⟨B + 1, 0, none⟩) 1 1, .slice (some ⟨B + 1 + 1, 0, none⟩) 1 1, .slice none 0 0, .slice (some ⟨B + 1 + 1 + 1, 0, none⟩) 1 1] 25
  r0 : Ints w (some ⟨B, 0, none⟩) 2 [1, 2]
  r1 : Ints w (some ⟨B + 1, 0, none⟩) 1 [3]
  r2 : Ints w (some ⟨B + 1 + 1, 0, none⟩) 1 [3]
  r4 : Ints w (some ⟨B + 1 + 1 + 1, 0, none⟩) 1 [0]
theorem NX.non {w w' : World} {N B : Nat} (h : NX w N B) (k : Keeps Non w w') : NX w' N B := ⟨h.blk.keeps k (fun x => x), h.r0.non k, h.r1.non k, h.r2.non k, h.r4.non k⟩
theorem NX.rows {w : World} {N B : Nat} (h : NX w N B) : Rows w (some ⟨N, 0, none⟩) 5 aN := rows_one (xss := aN) h.blk rfl (by decide) fun i hi => by
  match i, hi with
  | 0, _ => exact ⟨_, _, rfl, h.r0⟩
  | 1, _ => exact ⟨_, _, rfl, h.r1⟩
  | 2, _ => exact ⟨_, _, rfl, h.r2⟩
  | 3, _ => exact ⟨_, _, rfl, Ints.nil _ _⟩
  | 4, _ => exact ⟨_, _, rfl, h.r4⟩
theorem aw_from {w : World} {N B : Nat} (h : NX w N B) : Calls Try.prog 27 #[.slice (some ⟨N, 0, none⟩) 5 5, .int .i64 0] w fun e w' => ∃ a c, e = .returned (.tuple #[.slice a 4 c, .int .i64 0]) ∧ Ints w' a 4 [0, 1, 2, 3] ∧ Keeps Non w w' :=
  (from_yes _ 5 5 aN 0 w h.rows v_ck (by omega)).mono fun e w' ⟨v, h1, hv⟩ => by
    rw [v_from] at hv
    obtain ⟨a, c, rfl, h3, h4⟩ := hv.got (by decide)
    exact ⟨a, c, h1, h3, h4⟩
theorem aw_ways {w : World} {N B : Nat} (h : NX w N B) : Calls Try.prog 15 #[.slice (some ⟨N, 0, none⟩) 5 5, .int .i64 0] w fun e w' => ∃ b, e = .returned (.tuple #[.slice (some ⟨b, 0, none⟩) 5 5, .int .i64 0]) ∧ Ints w' (some ⟨b, 0, none⟩) 5 [0, 1, 1, 2, -1] ∧ Keeps Non w w' :=
  (ways_yes _ 5 5 aN 0 w h.rows v_ck (by omega)).mono fun e w' ⟨v, h1, hv⟩ => by
    rw [v_ways] at hv
    obtain ⟨b, rfl, _, h3, h4⟩ := hv
    exact ⟨b, h1, ints_of_blk h3 (by decide), h4⟩
theorem short_of {xss : List (List Int)} {m : Nat} (h : ∀ l ∈ xss, l.length ≤ m) : ∀ i, (xss.getD i []).length ≤ m := fun i => by
  by_cases hi : i < xss.length
  · rw [getD_numL hi]; exact h _ (List.getElem_mem _)
  · rw [List.getD_eq_getElem?_getD, List.getElem?_eq_none (by omega)]; simp
theorem aw_back {w : World} {N B : Nat} (h : NX w N B) : Calls Try.prog 31 #[.slice (some ⟨N, 0, none⟩) 5 5] w fun e w' => ∃ b, e = .returned (.tuple #[.slice (some ⟨b, 0, none⟩) 5 5, .int .i64 0]) ∧ Rows w' (some ⟨b, 0, none⟩) 5 [[4], [0], [0], [1, 2], []] ∧ Keeps Non w w' :=
  (back_yes _ 5 5 aN w h.rows v_ck).mono fun e w' ⟨v, h1, hv⟩ => by
    rw [v_back] at hv
    obtain ⟨b, S, rfl, _, h3, h4⟩ := hv
    exact ⟨b, h1, h3.rows (by decide) (short_of (by decide)), h4⟩
theorem aw_cd1 {w : World} {N B : Nat} (h : NX w N B) : Calls Try.prog 21 #[.slice (some ⟨N, 0, none⟩) 5 5, .slice (some ⟨w.heap.size, 0, none⟩) 2 2] (w.alloc (.cells #[.int .i64 1, .int .i64 3] 3)) fun e w' => e = .returned (.tuple #[.bool true, .int .i64 0]) ∧ Keeps Non w w' :=
  (closed_yes _ 5 5 aN _ 2 2 [1, 3] _ (h.rows.non ((Keeps.refl _ _).alloc _)) (ints_laid w [1, 3] rfl (by decide)) v_ck (by decide) (by omega)).mono fun e w' ⟨h1, h4⟩ => ⟨by rw [h1, v_cd1], ((Keeps.refl Non w).alloc _).then h4⟩
theorem aw_cd2 {w : World} {N B : Nat} (h : NX w N B) : Calls Try.prog 21 #[.slice (some ⟨N, 0, none⟩) 5 5, .slice (some ⟨w.heap.size, 0, none⟩) 1 1] (w.alloc (.cells #[.int .i64 1] 3)) fun e w' => e = .returned (.tuple #[.bool false, .int .i64 0]) ∧ Keeps Non w w' :=
  (closed_yes _ 5 5 aN _ 1 1 [1] _ (h.rows.non ((Keeps.refl _ _).alloc _)) (ints_laid w [1] rfl (by decide)) v_ck (by decide) (by omega)).mono fun e w' ⟨h1, h4⟩ => ⟨by rw [h1, v_cd2], ((Keeps.refl Non w).alloc _).then h4⟩
theorem aw_cl {w : World} {N B : Nat} (h : NX w N B) : Calls Try.prog 19 #[.slice (some ⟨N, 0, none⟩) 5 5, .slice (some ⟨w.heap.size, 0, none⟩) 1 1] (w.alloc (.cells #[.int .i64 2] 3)) fun e w' => ∃ a c, e = .returned (.tuple #[.slice a 2 c, .int .i64 0]) ∧ Ints w' a 2 [2, 3] ∧ Keeps Non w w' :=
  (closure_yes _ 5 5 aN _ 1 1 [2] _ (h.rows.non ((Keeps.refl _ _).alloc _)) (ints_laid w [2] rfl (by decide)) v_ck (by decide) (by omega)).mono fun e w' ⟨v, h1, hv⟩ => by
    rw [v_cl] at hv
    obtain ⟨a, c, rfl, h3, h4⟩ := hv.got (by decide)
    exact ⟨a, c, h1, h3, ((Keeps.refl Non w).alloc _).then h4⟩
theorem aw_on {w : World} {N B : Nat} (h : NX w N B) : Calls Try.prog 37 #[.slice (some ⟨N, 0, none⟩) 5 5, .slice (some ⟨w.heap.size, 0, none⟩) 2 2] (w.alloc (.cells #[.int .i64 3, .int .i64 1] 3)) fun e w' => ∃ b, e = .returned (.tuple #[.slice (some ⟨b, 0, none⟩) 2 2, .int .i64 0]) ∧ Rows w' (some ⟨b, 0, none⟩) 2 [[], [0]] ∧ Keeps Non w w' :=
  (only_l _ 5 5 aN _ 2 2 [3, 1] _ (h.rows.non ((Keeps.refl _ _).alloc _)) (ints_laid w [3, 1] rfl (by decide)) v_ck (by decide) (by omega)).mono fun e w' ⟨v, h1, hv, _⟩ => by
    have hv2 := hv v_onlyE
    rw [v_onlyE] at h1
    rw [v_only] at hv2
    obtain ⟨b, S, rfl, _, h3, h4⟩ := hv2
    exact ⟨b, h1, h3.rows (by decide) (short_of (by decide)), ((Keeps.refl Non w).alloc _).then h4⟩
theorem aw_ri {w : World} {N B : Nat} (h : NX w N B) : Calls Try.prog 14 #[.slice (some ⟨N, 0, none⟩) 5 5] w fun e w' => ∃ b, e = .returned (.tuple #[.slice (some ⟨b, 0, none⟩) 5 5, .int .i64 0]) ∧ Ints w' (some ⟨b, 0, none⟩) 5 [0, 1, 2, 3, 4] ∧ Keeps Non w w' :=
  (rings_yes _ 5 5 aN w h.rows v_ck).mono fun e w' ⟨v, h1, hv⟩ => by
    rw [v_rings] at hv
    obtain ⟨b, rfl, _, h3, h4⟩ := hv
    exact ⟨b, h1, ints_of_blk h3 (by decide), h4⟩
/-- Rows that a turn of block N leaves as they are. -/
def RowsBut (N : Nat) (w : World) (a : Option Addr) (n : Nat) (xss : List (List Int)) : Prop := ∀ u, Keeps (fun j => j = N) w u → Rows u a n xss
theorem RowsBut.non {N n : Nat} {w w' : World} {a : Option Addr} {xss : List (List Int)} (h : RowsBut N w a n xss) (k : Keeps Non w w') : RowsBut N w' a n xss := fun u ku => h u ((k.weak (fun _ _ x => x.elim)).then ku)
theorem RowsAt.but {w u : World} {B N : Nat} {S : List Value} {xss : List (List Int)} (h : RowsAt w B S xss) (hN : N < B) (k : Keeps (fun j => j = N) w u) : RowsAt u B S xss :=
  ⟨h.blk.keeps k (by omega), h.len, fun i hi => by
    obtain ⟨v, h1, h2⟩ := h.row i hi
    exact ⟨v, h1, owns_keeps h2 k (fun g hg e => by omega)⟩, h.apart⟩
theorem nx_turn {w : World} {N B : Nat} (h : NX w N B) (hN : B + 1 + 1 + 1 + 1 = N) : Rows ((w.alloc (.cells #[.int .i64 0] 3)).setCell ⟨N, 3, none⟩ (.slice (some ⟨w.heap.size, 0, none⟩) 1 1)) (some ⟨N, 0, none⟩) 5 aN2 ∧ Keeps (fun j => j = N) w ((w.alloc (.cells #[.int .i64 0] 3)).setCell ⟨N, 3, none⟩ (.slice (some ⟨w.heap.size, 0, none⟩) 1 1)) := by
  have hk : Keeps (fun j => j = N) w ((w.alloc (.cells #[.int .i64 0] 3)).setCell ⟨N, 3, none⟩ (.slice (some ⟨w.heap.size, 0, none⟩) 1 1)) := ((Keeps.refl (fun j => j = N) w).alloc _).set (b := N) (i := 3) (.inl rfl) _
  have hb := (h.blk.alloc (.cells #[.int .i64 0] 3)).store 3 (.slice (some ⟨w.heap.size, 0, none⟩) 1 1)
  have hl := h.blk.lt
  have i3 := (ints_laid w [0] rfl (by decide)).keeps (((Keeps.refl (fun j => j = N) (w.alloc (.cells #[.int .i64 0] 3))).set (b := N) (i := 3) (.inl rfl) (.slice (some ⟨w.heap.size, 0, none⟩) 1 1))) (fun b o e => by cases e; omega)
  refine ⟨rows_one (xss := aN2) hb rfl (by decide) fun i hi => ?_, hk⟩
  match i, hi with
  | 0, _ => exact ⟨_, _, rfl, h.r0.keeps hk (fun b o e => by cases e; omega)⟩
  | 1, _ => exact ⟨_, _, rfl, h.r1.keeps hk (fun b o e => by cases e; omega)⟩
  | 2, _ => exact ⟨_, _, rfl, h.r2.keeps hk (fun b o e => by cases e; omega)⟩
  | 3, _ => exact ⟨_, _, rfl, i3⟩
  | 4, _ => exact ⟨_, _, rfl, h.r4.keeps hk (fun b o e => by cases e; omega)⟩
theorem aw_ri2 {w : World} {N : Nat} (h : Rows w (some ⟨N, 0, none⟩) 5 aN2) : Calls Try.prog 14 #[.slice (some ⟨N, 0, none⟩) 5 5] w fun e w' => ∃ b, e = .returned (.tuple #[.slice (some ⟨b, 0, none⟩) 5 5, .int .i64 0]) ∧ Ints w' (some ⟨b, 0, none⟩) 5 [0, 0, 0, 0, 1] ∧ Keeps Non w w' :=
  (rings_yes _ 5 5 aN2 w h v_ck2).mono fun e w' ⟨v, h1, hv⟩ => by
    rw [v_rings2] at hv
    obtain ⟨b, rfl, _, h3, h4⟩ := hv
    exact ⟨b, h1, ints_of_blk h3 (by decide), h4⟩
theorem aw_mu {w : World} {N B : Nat} (h : NX w N B) : Calls Try.prog 36 #[.slice (some ⟨N, 0, none⟩) 5 5, .int .i64 0] w fun e w' => ∃ b, e = .returned (.tuple #[.slice (some ⟨b, 0, none⟩) 5 5, .int .i64 0]) ∧ RowsBut N w' (some ⟨b, 0, none⟩) 5 [[0], [0, 1], [0, 2], [0, 3], []] ∧ Keeps Non w w' :=
  (musts_yes _ 5 5 aN 0 w h.rows v_ck (by omega)).mono fun e w' ⟨v, h1, hv⟩ => by
    rw [v_musts] at hv
    obtain ⟨b, S, rfl, hb, h3, h4⟩ := hv
    have := h.blk.lt
    exact ⟨b, h1, fun u ku => (h3.but (by omega) ku).rows (by decide) (short_of (by decide)), h4⟩
theorem ll_back (u : World) (a : Option Addr) (c B : Nat) (hB : u.heap.size = B) (h : Rows u a 5 [[4], [0], [0], [1, 2], []]) :
    Calls Try.prog 41 #[.slice a 5 c, .slice (some ⟨B + 1 + 1 + 1 + 1, 0, none⟩) 5 5] (((((u.alloc (.cells #[.int .i64 4] 3)).alloc (.cells #[.int .i64 0] 3)).alloc (.cells #[.int .i64 0] 3)).alloc (.cells #[.int .i64 1, .int .i64 2] 3)).alloc (.cells #[.slice (some ⟨B, 0, none⟩) 1 1, .slice (some ⟨B + 1, 0, none⟩) 1 1, .slice (some ⟨B + 1 + 1, 0, none⟩) 1 1, .slice (some ⟨B + 1 + 1 + 1, 0, none⟩) 2 2, .slice none 0 0] 25)) fun e w' => e = .returned (.bool true) ∧ Keeps Non u w' := by
  have k := fun (u : World) (o : Obj) => (Keeps.refl Non u).alloc o
  have i0 := ints_laid u [4] (n := B) (by simp [hB]) (by simp)
  have i1 := ints_laid (u.alloc (.cells #[.int .i64 4] 3)) [0] (n := B + 1) (by simp [hB]) (by simp)
  have i2 := ints_laid ((u.alloc (.cells #[.int .i64 4] 3)).alloc (.cells #[.int .i64 0] 3)) [0] (n := B + 1 + 1) (by simp [hB]) (by simp)
  have i3 := ints_laid (((u.alloc (.cells #[.int .i64 4] 3)).alloc (.cells #[.int .i64 0] 3)).alloc (.cells #[.int .i64 0] 3)) [1, 2] (n := B + 1 + 1 + 1) (by simp [hB]) (by simp)
  have hBk := Blk.newAt ((((u.alloc (.cells #[.int .i64 4] 3)).alloc (.cells #[.int .i64 0] 3)).alloc (.cells #[.int .i64 0] 3)).alloc (.cells #[.int .i64 1, .int .i64 2] 3)) [.slice (some ⟨B, 0, none⟩) 1 1, .slice (some ⟨B + 1, 0, none⟩) 1 1, .slice (some ⟨B + 1 + 1, 0, none⟩) 1 1, .slice (some ⟨B + 1 + 1 + 1, 0, none⟩) 2 2, .slice none 0 0] 25 (n := B + 1 + 1 + 1 + 1) (by simp [hB])
  have hk : Keeps Non u (((((u.alloc (.cells #[.int .i64 4] 3)).alloc (.cells #[.int .i64 0] 3)).alloc (.cells #[.int .i64 0] 3)).alloc (.cells #[.int .i64 1, .int .i64 2] 3)).alloc (.cells #[.slice (some ⟨B, 0, none⟩) 1 1, .slice (some ⟨B + 1, 0, none⟩) 1 1, .slice (some ⟨B + 1 + 1, 0, none⟩) 1 1, .slice (some ⟨B + 1 + 1 + 1, 0, none⟩) 2 2, .slice none 0 0] 25)) := ((((((Keeps.refl Non u).alloc _).alloc _).alloc _).alloc _).alloc _)
  have hR2 := rows_one (xss := [[4], [0], [0], [1, 2], []]) hBk rfl (by decide) fun i hi => by
    match i, hi with
    | 0, _ => exact ⟨_, _, rfl, ((((i0.non (k _ _)).non (k _ _)).non (k _ _)).non (k _ _))⟩
    | 1, _ => exact ⟨_, _, rfl, (((i1.non (k _ _)).non (k _ _)).non (k _ _))⟩
    | 2, _ => exact ⟨_, _, rfl, ((i2.non (k _ _)).non (k _ _))⟩
    | 3, _ => exact ⟨_, _, rfl, (i3.non (k _ _))⟩
    | 4, _ => exact ⟨_, _, rfl, Ints.nil _ _⟩
  exact (lists_l _ 5 c _ _ 5 5 _ _ (h.non hk) hR2).mono fun e w' ⟨h1, h4⟩ => ⟨by rw [h1, decide_eq_true rfl], hk.then h4⟩
theorem ll_on (u : World) (a : Option Addr) (c B : Nat) (hB : u.heap.size = B) (h : Rows u a 2 [[], [0]]) :
    Calls Try.prog 41 #[.slice a 2 c, .slice (some ⟨B + 1, 0, none⟩) 2 2] ((u.alloc (.cells #[.int .i64 0] 3)).alloc (.cells #[.slice none 0 0, .slice (some ⟨B, 0, none⟩) 1 1] 25)) fun e w' => e = .returned (.bool true) ∧ Keeps Non u w' := by
  have k := fun (u : World) (o : Obj) => (Keeps.refl Non u).alloc o
  have i0 := ints_laid u [0] (n := B) (by simp [hB]) (by simp)
  have hBk := Blk.newAt (u.alloc (.cells #[.int .i64 0] 3)) [.slice none 0 0, .slice (some ⟨B, 0, none⟩) 1 1] 25 (n := B + 1) (by simp [hB])
  have hk : Keeps Non u ((u.alloc (.cells #[.int .i64 0] 3)).alloc (.cells #[.slice none 0 0, .slice (some ⟨B, 0, none⟩) 1 1] 25)) := (((Keeps.refl Non u).alloc _).alloc _)
  have hR2 := rows_one (xss := [[], [0]]) hBk rfl (by decide) fun i hi => by
    match i, hi with
    | 0, _ => exact ⟨_, _, rfl, Ints.nil _ _⟩
    | 1, _ => exact ⟨_, _, rfl, (i0.non (k _ _))⟩
  exact (lists_l _ 2 c _ _ 2 2 _ _ (h.non hk) hR2).mono fun e w' ⟨h1, h4⟩ => ⟨by rw [h1, decide_eq_true rfl], hk.then h4⟩
theorem ll_mu (u : World) (a : Option Addr) (c B : Nat) (hB : u.heap.size = B) (h : Rows u a 5 [[0], [0, 1], [0, 2], [0, 3], []]) :
    Calls Try.prog 41 #[.slice a 5 c, .slice (some ⟨B + 1 + 1 + 1 + 1, 0, none⟩) 5 5] (((((u.alloc (.cells #[.int .i64 0] 3)).alloc (.cells #[.int .i64 0, .int .i64 1] 3)).alloc (.cells #[.int .i64 0, .int .i64 2] 3)).alloc (.cells #[.int .i64 0, .int .i64 3] 3)).alloc (.cells #[.slice (some ⟨B, 0, none⟩) 1 1, .slice (some ⟨B + 1, 0, none⟩) 2 2, .slice (some ⟨B + 1 + 1, 0, none⟩) 2 2, .slice (some ⟨B + 1 + 1 + 1, 0, none⟩) 2 2, .slice none 0 0] 25)) fun e w' => e = .returned (.bool true) ∧ Keeps Non u w' := by
  have k := fun (u : World) (o : Obj) => (Keeps.refl Non u).alloc o
  have i0 := ints_laid u [0] (n := B) (by simp [hB]) (by simp)
  have i1 := ints_laid (u.alloc (.cells #[.int .i64 0] 3)) [0, 1] (n := B + 1) (by simp [hB]) (by simp)
  have i2 := ints_laid ((u.alloc (.cells #[.int .i64 0] 3)).alloc (.cells #[.int .i64 0, .int .i64 1] 3)) [0, 2] (n := B + 1 + 1) (by simp [hB]) (by simp)
  have i3 := ints_laid (((u.alloc (.cells #[.int .i64 0] 3)).alloc (.cells #[.int .i64 0, .int .i64 1] 3)).alloc (.cells #[.int .i64 0, .int .i64 2] 3)) [0, 3] (n := B + 1 + 1 + 1) (by simp [hB]) (by simp)
  have hBk := Blk.newAt ((((u.alloc (.cells #[.int .i64 0] 3)).alloc (.cells #[.int .i64 0, .int .i64 1] 3)).alloc (.cells #[.int .i64 0, .int .i64 2] 3)).alloc (.cells #[.int .i64 0, .int .i64 3] 3)) [.slice (some ⟨B, 0, none⟩) 1 1, .slice (some ⟨B + 1, 0, none⟩) 2 2, .slice (some ⟨B + 1 + 1, 0, none⟩) 2 2, .slice (some ⟨B + 1 + 1 + 1, 0, none⟩) 2 2, .slice none 0 0] 25 (n := B + 1 + 1 + 1 + 1) (by simp [hB])
  have hk : Keeps Non u (((((u.alloc (.cells #[.int .i64 0] 3)).alloc (.cells #[.int .i64 0, .int .i64 1] 3)).alloc (.cells #[.int .i64 0, .int .i64 2] 3)).alloc (.cells #[.int .i64 0, .int .i64 3] 3)).alloc (.cells #[.slice (some ⟨B, 0, none⟩) 1 1, .slice (some ⟨B + 1, 0, none⟩) 2 2, .slice (some ⟨B + 1 + 1, 0, none⟩) 2 2, .slice (some ⟨B + 1 + 1 + 1, 0, none⟩) 2 2, .slice none 0 0] 25)) := ((((((Keeps.refl Non u).alloc _).alloc _).alloc _).alloc _).alloc _)
  have hR2 := rows_one (xss := [[0], [0, 1], [0, 2], [0, 3], []]) hBk rfl (by decide) fun i hi => by
    match i, hi with
    | 0, _ => exact ⟨_, _, rfl, ((((i0.non (k _ _)).non (k _ _)).non (k _ _)).non (k _ _))⟩
    | 1, _ => exact ⟨_, _, rfl, (((i1.non (k _ _)).non (k _ _)).non (k _ _))⟩
    | 2, _ => exact ⟨_, _, rfl, ((i2.non (k _ _)).non (k _ _))⟩
    | 3, _ => exact ⟨_, _, rfl, (i3.non (k _ _))⟩
    | 4, _ => exact ⟨_, _, rfl, Ints.nil _ _⟩
  exact (lists_l _ 5 c _ _ 5 5 _ _ (h.non hk) hR2).mono fun e w' ⟨h1, h4⟩ => ⟨by rw [h1, decide_eq_true rfl], hk.then h4⟩
theorem nx_laid (w : World) (B : Nat) (hB : w.heap.size = B) : NX (((((w.alloc (.cells #[.int .i64 1, .int .i64 2] 3)).alloc (.cells #[.int .i64 3] 3)).alloc (.cells #[.int .i64 3] 3)).alloc (.cells #[.int .i64 0] 3)).alloc (.cells #[.slice (some ⟨B, 0, none⟩) 2 2, .slice (some ⟨B + 1, 0, none⟩) 1 1, .slice (some ⟨B + 1 + 1, 0, none⟩) 1 1, .slice none 0 0, .slice (some ⟨B + 1 + 1 + 1, 0, none⟩) 1 1] 25)) (B + 1 + 1 + 1 + 1) B := by
  have k := fun (u : World) (o : Obj) => (Keeps.refl Non u).alloc o
  have i0 := ints_laid w [1, 2] (n := B) (by simp [hB]) (by simp)
  have i1 := ints_laid (w.alloc (.cells #[.int .i64 1, .int .i64 2] 3)) [3] (n := B + 1) (by simp [hB]) (by simp)
  have i2 := ints_laid ((w.alloc (.cells #[.int .i64 1, .int .i64 2] 3)).alloc (.cells #[.int .i64 3] 3)) [3] (n := B + 1 + 1) (by simp [hB]) (by simp)
  have i3 := ints_laid (((w.alloc (.cells #[.int .i64 1, .int .i64 2] 3)).alloc (.cells #[.int .i64 3] 3)).alloc (.cells #[.int .i64 3] 3)) [0] (n := B + 1 + 1 + 1) (by simp [hB]) (by simp)
  exact ⟨Blk.newAt _ _ 25 (by simp [hB]), (((i0.non (k _ _)).non (k _ _)).non (k _ _)).non (k _ _), ((i1.non (k _ _)).non (k _ _)).non (k _ _), (i2.non (k _ _)).non (k _ _), i3.non (k _ _)⟩
set_option maxRecDepth 100000 in
set_option maxHeartbeats 4000000 in
theorem awake_l (w : World) : Calls Try.prog 17 #[] w fun e w' => e = .returned (.bool true) ∧ Keeps Non w w' := by
  obtain ⟨B, hB⟩ : ∃ B, w.heap.size = B := ⟨_, rfl⟩
  have HN := hide (nx_laid w B hB)
  have HBs := hide hB
  have hk0 : Keeps Non w (((((w.alloc (.cells #[.int .i64 1, .int .i64 2] 3)).alloc (.cells #[.int .i64 3] 3)).alloc (.cells #[.int .i64 3] 3)).alloc (.cells #[.int .i64 0] 3)).alloc (.cells #[.slice (some ⟨B, 0, none⟩) 2 2, .slice (some ⟨B + 1, 0, none⟩) 1 1, .slice (some ⟨B + 1 + 1, 0, none⟩) 1 1, .slice none 0 0, .slice (some ⟨B + 1 + 1 + 1, 0, none⟩) 1 1] 25)) := (((((Keeps.refl Non w).alloc _).alloc _).alloc _).alloc _).alloc _
  have HK := hide hk0
  obtain ⟨W, hW⟩ : ∃ W, ((((w.alloc (.cells #[.int .i64 1, .int .i64 2] 3)).alloc (.cells #[.int .i64 3] 3)).alloc (.cells #[.int .i64 3] 3)).alloc (.cells #[.int .i64 0] 3)).alloc (.cells #[.slice (some ⟨B, 0, none⟩) 2 2, .slice (some ⟨B + 1, 0, none⟩) 1 1, .slice (some ⟨B + 1 + 1, 0, none⟩) 1 1, .slice none 0 0, .slice (some ⟨B + 1 + 1 + 1, 0, none⟩) 1 1] 25) = W := ⟨_, rfl⟩
  obtain ⟨N, hN⟩ : ∃ N, B + 1 + 1 + 1 + 1 = N := ⟨_, rfl⟩
  rw [hW, hN] at HN
  rw [hW] at HK
  have HNB : Hid (w.heap.size ≤ N) := by show _ ≤ _; omega
  have HNe := hide hN
  clear hk0
  go_enter Try.func17, Try.ntmps17
  go_wp2_with fail
  try rw [hN]
  clear hW hB
  have C1 := hide (aw_from HN.out)
  refine C1.out.mono ?_
  rintro e x1 ⟨a1, c1, rfl, hI1, hk1⟩
  replace HN := hide (HN.out.non hk1)
  have I1 := hide hI1
  replace HK := hide (HK.out.then hk1)
  clear hk1 C1 hI1
  have C2 := hide (aw_ways HN.out)
  go_wp2_with fail
  refine C2.out.mono ?_
  rintro e x2 ⟨b2, rfl, hI2, hk2⟩
  replace HN := hide (HN.out.non hk2)
  replace I1 := hide (I1.out.non hk2)
  have I2 := hide hI2
  replace HK := hide (HK.out.then hk2)
  clear hk2 C2 hI2
  have C3 := hide (aw_back HN.out)
  go_wp2_with fail
  refine C3.out.mono ?_
  rintro e x3 ⟨b3, rfl, hI3, hk3⟩
  replace HN := hide (HN.out.non hk3)
  replace I1 := hide (I1.out.non hk3)
  replace I2 := hide (I2.out.non hk3)
  have I3 := hide hI3
  replace HK := hide (HK.out.then hk3)
  clear hk3 C3 hI3
  have C4 := hide (aw_cd1 HN.out)
  go_wp2_with fail
  refine C4.out.mono ?_
  rintro e x4 ⟨rfl, hk4⟩
  replace HN := hide (HN.out.non hk4)
  replace I1 := hide (I1.out.non hk4)
  replace I2 := hide (I2.out.non hk4)
  replace I3 := hide (I3.out.non hk4)
  replace HK := hide (HK.out.then hk4)
  clear hk4 C4 
  have C5 := hide (aw_cd2 HN.out)
  go_wp2_with fail
  refine C5.out.mono ?_
  rintro e x5 ⟨rfl, hk5⟩
  replace HN := hide (HN.out.non hk5)
  replace I1 := hide (I1.out.non hk5)
  replace I2 := hide (I2.out.non hk5)
  replace I3 := hide (I3.out.non hk5)
  replace HK := hide (HK.out.then hk5)
  clear hk5 C5 
  have C6 := hide (aw_cl HN.out)
  go_wp2_with fail
  refine C6.out.mono ?_
  rintro e x6 ⟨a6, c6, rfl, hI6, hk6⟩
  replace HN := hide (HN.out.non hk6)
  replace I1 := hide (I1.out.non hk6)
  replace I2 := hide (I2.out.non hk6)
  replace I3 := hide (I3.out.non hk6)
  have I6 := hide hI6
  replace HK := hide (HK.out.then hk6)
  clear hk6 C6 hI6
  have C7 := hide (aw_on HN.out)
  go_wp2_with fail
  refine C7.out.mono ?_
  rintro e x7 ⟨b7, rfl, hI7, hk7⟩
  replace HN := hide (HN.out.non hk7)
  replace I1 := hide (I1.out.non hk7)
  replace I2 := hide (I2.out.non hk7)
  replace I3 := hide (I3.out.non hk7)
  replace I6 := hide (I6.out.non hk7)
  have I7 := hide hI7
  replace HK := hide (HK.out.then hk7)
  clear hk7 C7 hI7
  have C8 := hide (aw_ri HN.out)
  go_wp2_with fail
  refine C8.out.mono ?_
  rintro e x8 ⟨b8, rfl, hI8, hk8⟩
  replace HN := hide (HN.out.non hk8)
  replace I1 := hide (I1.out.non hk8)
  replace I2 := hide (I2.out.non hk8)
  replace I3 := hide (I3.out.non hk8)
  replace I6 := hide (I6.out.non hk8)
  replace I7 := hide (I7.out.non hk8)
  have I8 := hide hI8
  replace HK := hide (HK.out.then hk8)
  clear hk8 C8 hI8
  have C9 := hide (aw_mu HN.out)
  go_wp2_with fail
  refine C9.out.mono ?_
  rintro e x9 ⟨b9, rfl, hI9, hk9⟩
  replace HN := hide (HN.out.non hk9)
  replace I1 := hide (I1.out.non hk9)
  replace I2 := hide (I2.out.non hk9)
  replace I3 := hide (I3.out.non hk9)
  replace I6 := hide (I6.out.non hk9)
  replace I7 := hide (I7.out.non hk9)
  replace I8 := hide (I8.out.non hk9)
  have I9 := hide hI9
  replace HK := hide (HK.out.then hk9)
  clear hk9 C9 hI9
  have E10 := eq_lit x9 a1 4 c1 [0, 1, 2, 3] rfl (by omega) I1.out
  simp only [List.map_cons, List.map_nil] at E10
  have C10 := hide (E10)
  go_wp2_with fail
  refine C10.out.mono ?_
  rintro e x10 ⟨rfl, hk10⟩
  replace HN := hide (HN.out.non hk10)
  replace I1 := hide (I1.out.non hk10)
  replace I2 := hide (I2.out.non hk10)
  replace I3 := hide (I3.out.non hk10)
  replace I6 := hide (I6.out.non hk10)
  replace I7 := hide (I7.out.non hk10)
  replace I8 := hide (I8.out.non hk10)
  replace I9 := hide (I9.out.non hk10)
  replace HK := hide (HK.out.then hk10)
  clear hk10 C10 
  clear E10
  clear I1
  have E11 := eq_lit x10 _ 5 5 [0, 1, 1, 2, -1] rfl (by omega) I2.out
  simp only [List.map_cons, List.map_nil] at E11
  have C11 := hide (E11)
  go_wp2_with fail
  refine C11.out.mono ?_
  rintro e x11 ⟨rfl, hk11⟩
  replace HN := hide (HN.out.non hk11)
  replace I2 := hide (I2.out.non hk11)
  replace I3 := hide (I3.out.non hk11)
  replace I6 := hide (I6.out.non hk11)
  replace I7 := hide (I7.out.non hk11)
  replace I8 := hide (I8.out.non hk11)
  replace I9 := hide (I9.out.non hk11)
  replace HK := hide (HK.out.then hk11)
  clear hk11 C11 
  clear E11
  clear I2
  obtain ⟨B12, hB12⟩ : ∃ B, x11.heap.size = B := ⟨_, rfl⟩
  have C12 := hide (ll_back x11 (some ⟨b3, 0, none⟩) 5 B12 hB12 I3.out)
  go_wp2_with fail
  refine C12.out.mono ?_
  rintro e x12 ⟨rfl, hk12⟩
  replace HN := hide (HN.out.non hk12)
  replace I3 := hide (I3.out.non hk12)
  replace I6 := hide (I6.out.non hk12)
  replace I7 := hide (I7.out.non hk12)
  replace I8 := hide (I8.out.non hk12)
  replace I9 := hide (I9.out.non hk12)
  replace HK := hide (HK.out.then hk12)
  clear hk12 C12 
  clear hB12
  clear I3
  have E13 := eq_lit x12 a6 2 c6 [2, 3] rfl (by omega) I6.out
  simp only [List.map_cons, List.map_nil] at E13
  have C13 := hide (E13)
  go_wp2_with fail
  refine C13.out.mono ?_
  rintro e x13 ⟨rfl, hk13⟩
  replace HN := hide (HN.out.non hk13)
  replace I6 := hide (I6.out.non hk13)
  replace I7 := hide (I7.out.non hk13)
  replace I8 := hide (I8.out.non hk13)
  replace I9 := hide (I9.out.non hk13)
  replace HK := hide (HK.out.then hk13)
  clear hk13 C13 
  clear E13
  clear I6
  obtain ⟨B14, hB14⟩ : ∃ B, x13.heap.size = B := ⟨_, rfl⟩
  have C14 := hide (ll_on x13 (some ⟨b7, 0, none⟩) 2 B14 hB14 I7.out)
  go_wp2_with fail
  refine C14.out.mono ?_
  rintro e x14 ⟨rfl, hk14⟩
  replace HN := hide (HN.out.non hk14)
  replace I7 := hide (I7.out.non hk14)
  replace I8 := hide (I8.out.non hk14)
  replace I9 := hide (I9.out.non hk14)
  replace HK := hide (HK.out.then hk14)
  clear hk14 C14 
  clear hB14
  clear I7
  have E15 := eq_lit x14 _ 5 5 [0, 1, 2, 3, 4] rfl (by omega) I8.out
  simp only [List.map_cons, List.map_nil] at E15
  have C15 := hide (E15)
  go_wp2_with fail
  refine C15.out.mono ?_
  rintro e x15 ⟨rfl, hk15⟩
  replace HN := hide (HN.out.non hk15)
  replace I8 := hide (I8.out.non hk15)
  replace I9 := hide (I9.out.non hk15)
  replace HK := hide (HK.out.then hk15)
  clear hk15 C15 
  clear E15
  clear I8
  have hn0 := HN.out.blk.alloc (.cells #[.int .i64 0] 3)
  have cN := hn0.cell 3
  simp only [List.getElem?_cons_zero, List.getElem?_cons_succ] at cN
  have fN := hn0.free 3 none
  have lN := hn0.lt
  have HT := hide (nx_turn HN.out HNe.out)
  clear hn0 HN
  go_wp2_with fail
  obtain ⟨y0, hy0⟩ : ∃ y, ((x15.alloc (.cells #[.int .i64 0] 3)).setCell ⟨N, 3, none⟩ (.slice (some ⟨x15.heap.size, 0, none⟩) 1 1)) = y := ⟨_, rfl⟩
  rw [hy0] at HT
  try rw [hy0]
  have HR := hide HT.out.1
  have I9 := hide (I9.out y0 HT.out.2)
  have HK : Hid (Keeps Non w y0) := HK.out.trans HT.out.2 (fun i hi h => by subst h; have := HNB.out; omega)
  clear hy0 HT cN fN lN
  have C16 := hide (aw_ri2 HR.out)
  refine C16.out.mono ?_
  rintro e z1 ⟨bz, rfl, hIz, hkz⟩
  have Iz := hide hIz
  replace I9 := hide (I9.out.non hkz)
  replace HK := hide (HK.out.then hkz)
  clear hkz hIz C16 HR
  obtain ⟨B17, hB17⟩ : ∃ B, z1.heap.size = B := ⟨_, rfl⟩
  have C17 := hide (ll_mu z1 (some ⟨b9, 0, none⟩) 5 B17 hB17 I9.out)
  go_wp2_with fail
  refine C17.out.mono ?_
  rintro e x17 ⟨rfl, hk17⟩
  replace I9 := hide (I9.out.non hk17)
  replace Iz := hide (Iz.out.non hk17)
  replace HK := hide (HK.out.then hk17)
  clear hk17 C17 
  clear hB17
  clear I9
  have E18 := eq_lit x17 _ 5 5 [0, 0, 0, 0, 1] rfl (by omega) Iz.out
  simp only [List.map_cons, List.map_nil] at E18
  have C18 := hide (E18)
  go_wp2_with fail
  refine C18.out.mono ?_
  rintro e x18 ⟨rfl, hk18⟩
  replace Iz := hide (Iz.out.non hk18)
  replace HK := hide (HK.out.then hk18)
  clear hk18 C18 
  clear E18
  clear Iz
  go_wp2_with fail
  go_ret
  exact ⟨rfl, HK.out⟩
end Go.Proofs.Ythpdflpkkiabhaa
