/-
  Layer 7, plain: what ReachOnly says. No condition.
-/
import Derived.Test.YthpdflpkkiabhaaPb
import Derived.Test.YthpdflpkkiabhaaPk
import Derived.Test.YthpdflpkkiabhaaOn
namespace Go.Proofs.Ythpdflpkkiabhaa
set_option linter.unusedVariables false
theorem bfs_enough {s : Int → List Int} {o : Int} : ∀ (f f2 : Nat) (F : List (Int × Int)) (k : Nat), f ≤ f2 → (bfs s o f2 F k).length ≤ k + f → bfs s o f F k = bfs s o f2 F k
  | 0, f2, F, k, h, hl => by
    have := (bfs_pre s o f2 F k).length_le
    rw [bfs_stop s o f2 F k (by omega)]
    rfl
  | f + 1, f2, F, k, h, hl => by
    obtain ⟨g, rfl⟩ : ∃ g, f2 = g + 1 := ⟨f2 - 1, by omega⟩
    by_cases hk : k < F.length
    · obtain ⟨x, hx⟩ : ∃ x, F[k]? = some x := ⟨_, List.getElem?_eq_getElem hk⟩
      rw [bfs_step s o g F k x hx] at hl ⊢
      rw [bfs_step s o f F k x hx]
      exact bfs_enough f g _ _ (by omega) (by omega)
    · rw [bfs_stop s o _ F k (by omega), bfs_stop s o _ F k (by omega)]
def sg (A : List Int) (x : Int) : Int := (A.idxOf x : Int)
def mu (A : List Int) (x : Int × Int) : Int × Int := (sg A x.1, sg A x.2)
theorem sg_inj {A : List Int} {x y : Int} (hx : x ∈ A) (hy : y ∈ A) (h : sg A x = sg A y) : x = y := idx_inj hx hy (by unfold sg at h; omega)
theorem mu_fst (A : List Int) (F : List (Int × Int)) : (F.map (mu A)).map Prod.fst = (F.map Prod.fst).map (sg A) := by
  rw [List.map_map, List.map_map]
  rfl
theorem sg_mem {A l : List Int} (hl : ∀ x ∈ l, x ∈ A) {x : Int} (hx : x ∈ A) : sg A x ∈ l.map (sg A) ↔ x ∈ l := by
  rw [List.mem_map]
  constructor
  · rintro ⟨y, hy, he⟩
    rw [← sg_inj (hl y hy) hx he]
    exact hy
  · intro h
    exact ⟨x, h, rfl⟩
theorem add_map {A : List Int} (hA : ∀ x ∈ A, 0 ≤ x) {F : List (Int × Int)} (hF : ∀ y ∈ F.map Prod.fst, y ∈ A) {x p : Int} (hx : x ∈ A) : add (-1) (F.map (mu A)) (sg A x) (sg A p) = (add (-1) F x p).map (mu A) := by
  unfold add
  rw [mu_fst]
  by_cases h : x ∈ F.map Prod.fst
  · rw [if_pos (.inl ((sg_mem hF hx).2 h)), if_pos (.inl h)]
  · rw [if_neg, if_neg]
    · rw [List.map_append]
      rfl
    · rintro (h1 | h1)
      · exact h h1
      · have := hA x hx
        omega
    · rintro (h1 | h1)
      · exact h ((sg_mem hF hx).1 h1)
      · unfold sg at h1
        omega
theorem add_in {A : List Int} {F : List (Int × Int)} (hF : ∀ y ∈ F.map Prod.fst, y ∈ A) {x p : Int} (hx : x ∈ A) : ∀ y ∈ (add (-1) F x p).map Prod.fst, y ∈ A := fun y hy => by
  obtain ⟨z, hz, rfl⟩ := List.mem_map.1 hy
  rcases mem_add hz with h | rfl
  · exact hF _ (List.mem_map.2 ⟨z, h, rfl⟩)
  · exact hx
theorem adds_map {A : List Int} (hA : ∀ x ∈ A, 0 ≤ x) {p : Int} : ∀ {l : List Int} {F : List (Int × Int)}, (∀ y ∈ F.map Prod.fst, y ∈ A) → (∀ x ∈ l, x ∈ A) → adds (-1) (sg A p) (l.map (sg A)) (F.map (mu A)) = (adds (-1) p l F).map (mu A) ∧ ∀ y ∈ (adds (-1) p l F).map Prod.fst, y ∈ A
  | [], F, hF, _ => ⟨rfl, hF⟩
  | x :: l, F, hF, hl => by
    have hx := hl x (by simp)
    have := adds_map hA (p := p) (l := l) (add_in (p := p) hF hx) (fun y hy => hl y (by simp [hy]))
    refine ⟨?_, this.2⟩
    rw [List.map_cons, adds, add_map hA hF hx, this.1]
    rfl
theorem bfs_map {A : List Int} (hA : ∀ x ∈ A, 0 ≤ x) {s s2 : Int → List Int} (hs : ∀ x ∈ A, s2 (sg A x) = (s x).map (sg A)) (hcl : ∀ x ∈ A, ∀ t ∈ s x, t ∈ A) : ∀ (f : Nat) (F : List (Int × Int)) (k : Nat), (∀ y ∈ F.map Prod.fst, y ∈ A) → bfs s2 (-1) f (F.map (mu A)) k = (bfs s (-1) f F k).map (mu A)
  | 0, F, k, hF => rfl
  | f + 1, F, k, hF => by
    by_cases hk : k < F.length
    · obtain ⟨x, hx⟩ : ∃ x, F[k]? = some x := ⟨_, List.getElem?_eq_getElem hk⟩
      have hxA : x.1 ∈ A := hF _ (List.mem_map.2 ⟨x, List.mem_of_getElem? hx, rfl⟩)
      rw [bfs_step s (-1) f F k x hx, bfs_step s2 (-1) f (F.map (mu A)) k (mu A x) (by rw [List.getElem?_map, hx]; rfl)]
      have h1 := adds_map hA (p := x.1) hF (hcl x.1 hxA)
      rw [show (mu A x).1 = sg A x.1 from rfl, hs x.1 hxA, h1.1]
      exact bfs_map hA hs hcl f _ _ h1.2
    · rw [bfs_stop s _ _ F k (by omega), bfs_stop s2 _ _ _ k (by rw [List.length_map]; omega)]
theorem few_total : ∀ (A : List Int) (next : List (List Int)), A.Nodup → (∀ p ∈ A, 0 ≤ p ∧ p < (next.length : Int)) → (A.map fun p => (succL next p).length).sum ≤ total next
  | [], next, _, _ => by simp
  | p :: A, next, hn, hp => by
    rw [List.nodup_cons] at hn
    have hp0 := hp p (by simp)
    have ih := few_total A (next.set p.toNat []) hn.2 (fun q hq => by rw [List.length_set]; exact hp q (by simp [hq]))
    have h1 := total_put (out := next) (i := p.toNat) (by omega) []
    have e : (A.map fun q => (succL (next.set p.toNat []) q).length) = A.map fun q => (succL next q).length := List.map_congr_left fun q hq => by
      have hq0 := hp q (by simp [hq])
      have hne : q ≠ p := fun e => hn.1 (e ▸ hq)
      unfold succL
      rw [getD_set (by omega), if_neg (by omega)]
    rw [e] at ih
    rw [List.map_cons, List.sum_cons]
    have e2 : (succL next p).length = (next.getD p.toNat []).length := rfl
    simp only [List.length_nil] at h1
    omega
theorem onlyL_at {next : List (List Int)} {l : List Int} {i : Nat} (hi : i < l.length) : (onlyL next l).getD i [] = rowO next l (l.getD i 0) := by
  unfold onlyL
  rw [getD_numL (by simpa using hi), List.getElem_map, getD_num hi]
theorem onlyL_length (next : List (List Int)) (l : List Int) : (onlyL next l).length = l.length := by simp [onlyL]
theorem getD_idx {A : List Int} {x : Int} (h : x ∈ A) : A.getD (A.idxOf x) 0 = x := by
  rw [getD_num (List.idxOf_lt_length_of_mem h)]
  exact List.getElem_idxOf _
theorem idx_getD {A : List Int} (hn : A.Nodup) {i : Nat} (h : i < A.length) : A.idxOf (A.getD i 0) = i := by
  rw [getD_num h]
  exact List.Nodup.idxOf_getElem hn i h
theorem upTo_mem {n : Nat} {x : Int} : x ∈ upTo n ↔ 0 ≤ x ∧ x < (n : Int) := by
  unfold upTo
  rw [List.mem_map]
  constructor
  · rintro ⟨j, hj, rfl⟩
    rw [List.mem_range] at hj
    omega
  · intro h
    exact ⟨x.toNat, List.mem_range.2 (by omega), by omega⟩
theorem upTo_length (n : Nat) : (upTo n).length = n := by simp [upTo]
theorem upTo_rise (n : Nat) : (upTo n).Pairwise (· < ·) := by
  unfold upTo
  rw [List.pairwise_map]
  exact List.Pairwise.imp (R := fun a b : Nat => a < b) (fun h => by omega) List.pairwise_lt_range
theorem idx_upTo {n : Nat} {x : Int} (h : 0 ≤ x ∧ x < (n : Int)) : ((upTo n).idxOf x : Int) = x := by
  have := idx_getD (rise_nodup (upTo_rise n)) (i := x.toNat) (by rw [upTo_length]; omega)
  rw [upTo_at (by omega), show ((x.toNat : Nat) : Int) = x by omega] at this
  omega
/-- Whether one point alone is closed. -/
theorem closed_one {next : List (List Int)} (hc : checkB next = true) {s : Int} (hs : 0 ≤ s ∧ s < (next.length : Int)) : closedB next next.length [s] = decide (closedP next [s]) := by
  have hl : ∀ x ∈ [s], 0 ≤ x ∧ x < (next.length : Int) := fun x hx => by rw [List.mem_singleton.1 hx]; exact hs
  have e : Lib.compact (sortL [s]) = [s] := comp_eq (by simp) (fun _ => Iff.rfl)
  rw [closedB_eq hc hl, e]
  by_cases h : closedP next [s]
  · rw [decide_eq_true h, decide_eq_true_iff]
    refine rise_ext (closureL_rise hc hl) (by simp) fun x => ?_
    rw [closureL_mem hc hl]
    constructor
    · rintro ⟨a, ha, hav⟩
      induction hav with
      | refl _ => exact ha
      | step _ h2 _ ih => exact h _ ih _ h2
    · intro hx
      exact ⟨x, hx, .refl (by have := hl x hx; omega)⟩
  · rw [decide_eq_false h, decide_eq_false_iff_not]
    intro e2
    refine h fun p hp t ht => ?_
    have hp2 := List.mem_singleton.1 hp
    subst hp2
    rw [← e2, closureL_mem hc hl]
    have := checkB_succ hc p hs t ht
    exact ⟨p, hp, .step (.refl (by omega)) ht (by omega)⟩
structure OnlyQ (next : List (List Int)) (n : Nat) (s : Int) (A : List Int) (Ls : List (List Int)) (L : Nat) : Prop where
  e0 : onlyE next A = 0
  check : checkB Ls = true
  len : ∀ i, i < L → (Ls.getD i []).length = (next.getD (A.getD i 0).toNat []).length
  to : ∀ i, i < L → ∀ k, k < (Ls.getD i []).length → (0 ≤ (Ls.getD i []).getD k 0 ∧ (Ls.getD i []).getD k 0 < (L : Int)) ∧ A.getD ((Ls.getD i []).getD k 0).toNat 0 = (next.getD (A.getD i 0).toNat []).getD k 0
  short : ∀ i, i < L → (waysL Ls L 0).getD i 0 = (waysL next n s).getD (A.getD i 0).toNat 0
  again : fromL Ls L 0 = upTo L
  every : onlyE next (upTo n) = 0 ∧ onlyL next (upTo n) = next
  twice : onlyE next (A ++ [s]) = 2
  one : onlyE next [s] = if closedB next n [s] = true then 0 else 71
theorem only_plain {next : List (List Int)} (hc : checkB next = true) {s : Int} (hs : 0 ≤ s ∧ s < (next.length : Int)) {A : List Int} (hA : fromL next next.length s = A) {L : Nat} (hL : A.length = L) : OnlyQ next next.length s A (onlyL next A) L := by
  have hn := fromL_nodup hc hs
  have hm := fromL_mem hc hs
  have hF := finds hc hs
  rw [hA] at hn hm hF
  have hcl : ∀ p ∈ A, ∀ t ∈ succL next p, t ∈ A := fun p hp t ht => by
    have hp0 := hm p hp
    have h1 := hF.far p.toNat (by omega)
    rw [show ((p.toNat : Nat) : Int) = p by omega] at h1
    have h2 := hF.on p.toNat (by omega) (h1.1.2 hp) t (by rw [show ((p.toNat : Nat) : Int) = p by omega]; exact ht)
    have ht0 := checkB_succ hc p hp0 t ht
    have h3 := hF.far t.toNat (by omega)
    rw [show ((t.toNat : Nat) : Int) = t by omega] at h3
    exact h3.1.1 h2.1
  have hAl : A.length ≤ next.length := few_pts next.length A hn hm
  obtain ⟨g1, g2, g3⟩ := checkB_iff.1 hc
  have hAi : ∀ i, i < L → A.getD i 0 ∈ A := fun i hi => by rw [getD_num (by omega)]; exact List.getElem_mem _
  have hrow : ∀ i, i < L → (onlyL next A).getD i [] = (succL next (A.getD i 0)).map (sg A) := fun i hi => by rw [onlyL_at (by omega)]; rfl
  have hck : checkB (onlyL next A) = true := by
    refine checkB_iff.2 ⟨by rw [onlyL_length]; omega, ?_, fun l hl x hx => ?_⟩
    · have h1 := few_total A next hn hm
      have e : total (onlyL next A) = (A.map fun p => (succL next p).length).sum := by
        unfold total onlyL
        rw [List.map_map]
        congr 1
        exact List.map_congr_left fun p _ => by simp [rowO]
      omega
    · rw [onlyL_length]
      obtain ⟨i, hi, rfl⟩ := getD_of_mem hl
      rw [onlyL_length] at hi
      rw [hrow i (by omega), List.mem_map] at hx
      obtain ⟨t, ht, rfl⟩ := hx
      have := List.idxOf_lt_length_of_mem (hcl _ (hAi i (by omega)) t ht)
      unfold sg
      omega
  have hs2 : ∀ x ∈ A, succL (onlyL next A) (sg A x) = (succL next x).map (sg A) := fun x hx => by
    have hx2 := List.idxOf_lt_length_of_mem hx
    unfold succL sg
    rw [Int.toNat_natCast, onlyL_at hx2, getD_idx hx]
    rfl
  have hsA : s ∈ A := by
    have := hF.first
    rw [← this.2]
    exact hAi 0 (by omega)
  have hs0 : sg A s = 0 := by
    have := hF.first
    have h2 := idx_getD hn this.1
    rw [this.2] at h2
    unfold sg
    omega
  have h0L : (0 : Int) ≤ 0 ∧ (0 : Int) < ((onlyL next A).length : Int) := by
    have := hF.first.1
    rw [onlyL_length]
    omega
  refine ⟨?_, hck, ?_, ?_, ?_, ?_, ?_, ?_, ?_⟩
  · unfold onlyE
    rw [if_pos hn, if_pos (show closedP next A from hcl)]
  · intro i hi
    rw [hrow i hi, List.length_map]
    rfl
  · intro i hi k hk
    rw [hrow i hi, List.length_map] at hk
    have h1 : (succL next (A.getD i 0))[k] ∈ A := hcl _ (hAi i hi) _ (List.getElem_mem hk)
    have h2 := List.idxOf_lt_length_of_mem h1
    have h3 : ((succL next (A.getD i 0)).map (sg A)).getD k 0 = sg A (succL next (A.getD i 0))[k] := by
      rw [getD_num (by simpa using hk), List.getElem_map]
    rw [hrow i hi, h3]
    refine ⟨by unfold sg; omega, ?_⟩
    have h4 : (next.getD (A.getD i 0).toNat []).getD k 0 = (succL next (A.getD i 0))[k] := getD_num hk
    rw [h4]
    unfold sg
    rw [Int.toNat_natCast, getD_idx h1]
  · intro i hi
    have hp := hm _ (hAi i hi)
    have f1 := ways_far hck h0L i (by rw [onlyL_length]; omega)
    have f2 := ways_far hc hs (A.getD i 0).toNat (by omega)
    rw [onlyL_length, hL] at f1
    refine far_eq f1 f2 fun j => ?_
    rw [show (((A.getD i 0).toNat : Nat) : Int) = A.getD i 0 by omega]
    have fw : ∀ (j : Nat) (b : Int), Wk (succL next) s j b → b ∈ A ∧ Wk (succL (onlyL next A)) 0 j (sg A b) := fun j b hb => by
      induction hb with
      | nil => exact ⟨hsA, by rw [hs0]; exact .nil⟩
      | @step k b c h1 h2 ih =>
        refine ⟨hcl b ih.1 c h2, .step ih.2 ?_⟩
        rw [hs2 b ih.1]
        exact List.mem_map.2 ⟨c, h2, rfl⟩
    have bw : ∀ (j : Nat) (x : Int), Wk (succL (onlyL next A)) 0 j x → ∃ b ∈ A, sg A b = x ∧ Wk (succL next) s j b := fun j x hx => by
      induction hx with
      | nil => exact ⟨s, hsA, hs0, .nil⟩
      | @step k y z h1 h2 ih =>
        obtain ⟨b, hb, rfl, hw⟩ := ih
        rw [hs2 b hb, List.mem_map] at h2
        obtain ⟨c, hc2, rfl⟩ := h2
        exact ⟨c, hcl b hb c hc2, rfl, .step hw hc2⟩
    have hsi : sg A (A.getD i 0) = i := by unfold sg; rw [idx_getD hn (by omega)]
    constructor
    · intro h
      obtain ⟨b, hb, h1, h2⟩ := bw j i h
      rw [← hsi] at h1
      rw [← sg_inj hb (hAi i hi) h1]
      exact h2
    · intro h
      have := (fw j _ h).2
      rwa [hsi] at this
  · have hb : begins (-1) [s] [] = [(s, s)] := by
      simp only [begins, add]
      rw [if_neg]
      · rfl
      · rintro (h | h)
        · simp at h
        · omega
    have hb2 : begins (-1) [(0 : Int)] [] = ([(s, s)] : List (Int × Int)).map (mu A) := by
      rw [List.map_cons, mu, hs0]
      rfl
    have hfl : (bfs (succL next) (-1) next.length [(s, s)] 0).map Prod.fst = A := by
      rw [← hA]
      unfold fromL foundL
      rw [hb]
    have hlen : (bfs (succL next) (-1) next.length [(s, s)] 0).length = L := by
      have := congrArg List.length hfl
      rw [List.length_map] at this
      omega
    have hen := bfs_enough (s := succL next) (o := -1) L next.length [(s, s)] 0 (by omega) (by omega)
    have hmap := bfs_map (fun x hx => (hm x hx).1) hs2 hcl L [(s, s)] 0 (fun y hy => by
      simp only [List.map_cons, List.map_nil, List.mem_singleton] at hy
      rw [hy]
      exact hsA)
    have e : fromL (onlyL next A) L 0 = A.map (sg A) := by
      unfold fromL foundL
      rw [hb2, hmap, hen, mu_fst, hfl]
    rw [e]
    refine List.ext_getElem (by rw [List.length_map, upTo_length, hL]) fun i h1 h2 => ?_
    rw [List.length_map] at h1
    rw [List.getElem_map]
    have h3 := idx_getD hn h1
    rw [getD_num h1] at h3
    have h4 := upTo_at (n := L) (i := i) (by omega)
    rw [getD_num h2] at h4
    rw [h4]
    unfold sg
    rw [h3]
  · have hnu := rise_nodup (upTo_rise next.length)
    have hcu : closedP next (upTo next.length) := fun p hp t ht => by
      rw [upTo_mem] at hp ⊢
      exact checkB_succ hc p hp t ht
    refine ⟨by unfold onlyE; rw [if_pos hnu, if_pos hcu], ?_⟩
    refine List.ext_getElem (by rw [onlyL_length, upTo_length]) fun i h1 h2 => ?_
    have h3 := onlyL_at (next := next) (l := upTo next.length) (i := i) (by rw [upTo_length]; exact h2)
    rw [getD_numL h1, upTo_at h2] at h3
    rw [h3]
    unfold rowO
    have e : (succL next (i : Int)).map (fun t => ((upTo next.length).idxOf t : Int)) = (succL next (i : Int)).map id := List.map_congr_left fun t ht => idx_upTo (checkB_succ hc i (by omega) t ht)
    rw [e, List.map_id]
    unfold succL
    rw [Int.toNat_natCast, getD_numL h2]
  · unfold onlyE
    rw [if_neg]
    intro h
    rw [List.nodup_append] at h
    exact h.2.2 s hsA s (by simp) rfl
  · unfold onlyE
    rw [if_pos (by simp), closed_one hc hs]
    by_cases h : closedP next [s]
    · rw [if_pos h, if_pos (decide_eq_true h)]
    · rw [if_neg h, if_neg (by rw [decide_eq_true_iff]; exact h)]
end Go.Proofs.Ythpdflpkkiabhaa
