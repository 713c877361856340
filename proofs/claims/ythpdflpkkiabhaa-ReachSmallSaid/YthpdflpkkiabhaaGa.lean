/-
  Layer 7, plain: what is found from some points, in the order of finding. No condition.
-/
namespace Go.Proofs.Ythpdflpkkiabhaa
set_option linter.unusedVariables false
/-- One more point, with the one that it was found from, if it is new and not left out. -/
def add (o : Int) (F : List (Int × Int)) (x p : Int) : List (Int × Int) := if x ∈ F.map Prod.fst ∨ x = o then F else F ++ [(x, p)]
def adds (o : Int) (p : Int) : List Int → List (Int × Int) → List (Int × Int)
  | [], F => F
  | x :: l, F => adds o p l (add o F x p)
def begins (o : Int) : List Int → List (Int × Int) → List (Int × Int)
  | [], F => F
  | x :: l, F => begins o l (add o F x x)
def bfs (s : Int → List Int) (o : Int) : Nat → List (Int × Int) → Nat → List (Int × Int)
  | 0, F, _ => F
  | f + 1, F, k => match F[k]? with
    | none => F
    | some x => bfs s o f (adds o x.1 (s x.1) F) (k + 1)
def foundL (s : Int → List Int) (o : Int) (n : Nat) (l : List Int) : List (Int × Int) := bfs s o n (begins o l []) 0
/-- Points in range, each one once, none left out. -/
structure Ok (n : Nat) (o : Int) (F : List (Int × Int)) : Prop where
  once : (F.map Prod.fst).Nodup
  pt : ∀ x ∈ F, 0 ≤ x.1 ∧ x.1 < n
  out : ∀ x ∈ F, x.1 ≠ o
theorem ok_nil (n : Nat) (o : Int) : Ok n o [] := ⟨by simp, by simp, by simp⟩
theorem ok_add {n : Nat} {o x p : Int} {F : List (Int × Int)} (h : Ok n o F) (hx : 0 ≤ x ∧ x < n) : Ok n o (add o F x p) := by
  unfold add
  split
  · exact h
  · rename_i hn
    have h1 : x ∉ F.map Prod.fst := fun e => hn (.inl e)
    have h2 : x ≠ o := fun e => hn (.inr e)
    refine ⟨?_, ?_, ?_⟩
    · rw [List.map_append, List.nodup_append]
      refine ⟨h.once, by simp, ?_⟩
      intro a ha b hb
      simp at hb
      subst hb
      intro e
      subst e
      exact h1 ha
    · intro y hy
      rcases List.mem_append.1 hy with hy | hy
      · exact h.pt y hy
      · simp at hy; subst hy; exact hx
    · intro y hy
      rcases List.mem_append.1 hy with hy | hy
      · exact h.out y hy
      · simp at hy; subst hy; exact h2
theorem ok_adds {n : Nat} {o p : Int} : ∀ {l : List Int} {F : List (Int × Int)}, Ok n o F → (∀ x ∈ l, 0 ≤ x ∧ x < n) → Ok n o (adds o p l F)
  | [], _, h, _ => h
  | x :: l, _, h, hl => ok_adds (l := l) (ok_add h (hl x (by simp))) (fun y hy => hl y (by simp [hy]))
theorem ok_begins {n : Nat} {o : Int} : ∀ {l : List Int} {F : List (Int × Int)}, Ok n o F → (∀ x ∈ l, 0 ≤ x ∧ x < n) → Ok n o (begins o l F)
  | [], _, h, _ => h
  | x :: l, _, h, hl => ok_begins (l := l) (ok_add h (hl x (by simp))) (fun y hy => hl y (by simp [hy]))
/-- Points in range are no more than there are. -/
theorem few_pts : ∀ (n : Nat) (l : List Int), l.Nodup → (∀ x ∈ l, 0 ≤ x ∧ x < (n : Int)) → l.length ≤ n
  | 0, l, _, h => by
    cases l with
    | nil => simp
    | cons x l => have := h x (by simp); omega
  | n + 1, l, hn, h => by
    have h1 : (l.erase (n : Int)).Nodup := hn.erase _
    have h2 := few_pts n (l.erase (n : Int)) h1 (fun x hx => by
      have h3 := h x (List.mem_of_mem_erase hx)
      have h4 : x ≠ (n : Int) := by
        intro e
        subst e
        exact (List.Nodup.not_mem_erase hn) hx
      omega)
    have h5 := List.length_erase (a := (n : Int)) (l := l)
    split at h5 <;> omega
theorem Ok.few {n : Nat} {o : Int} {F : List (Int × Int)} (h : Ok n o F) : F.length ≤ n := by
  have := few_pts n (F.map Prod.fst) h.once (fun x hx => by
    obtain ⟨y, hy, rfl⟩ := List.mem_map.1 hx
    exact h.pt y hy)
  simpa using this
theorem add_pre (o : Int) (F : List (Int × Int)) (x p : Int) : F <+: add o F x p := by
  unfold add
  split
  · exact List.prefix_refl _
  · exact List.prefix_append _ _
theorem adds_pre (o p : Int) : ∀ (l : List Int) (F : List (Int × Int)), F <+: adds o p l F
  | [], F => List.prefix_refl _
  | x :: l, F => (add_pre o F x p).trans (adds_pre o p l _)
theorem begins_pre (o : Int) : ∀ (l : List Int) (F : List (Int × Int)), F <+: begins o l F
  | [], F => List.prefix_refl _
  | x :: l, F => (add_pre o F x x).trans (begins_pre o l _)
theorem bfs_pre (s : Int → List Int) (o : Int) : ∀ (f : Nat) (F : List (Int × Int)) (k : Nat), F <+: bfs s o f F k
  | 0, F, _ => List.prefix_refl _
  | f + 1, F, k => by
    unfold bfs
    split
    · exact List.prefix_refl _
    · exact (adds_pre o _ _ F).trans (bfs_pre s o f _ _)
theorem bfs_stop (s : Int → List Int) (o : Int) (f : Nat) (F : List (Int × Int)) (k : Nat) (h : F.length ≤ k) : bfs s o f F k = F := by
  cases f with
  | zero => rfl
  | succ f => unfold bfs; rw [List.getElem?_eq_none h]
theorem bfs_step (s : Int → List Int) (o : Int) (f : Nat) (F : List (Int × Int)) (k : Nat) (x : Int × Int) (h : F[k]? = some x) : bfs s o (f + 1) F k = bfs s o f (adds o x.1 (s x.1) F) (k + 1) := by
  conv => lhs; unfold bfs
  rw [h]
/-- What holds at the beginning and is kept holds at the end. -/
theorem bfs_rec {s : Int → List Int} {o : Int} {n : Nat} (hs : ∀ p, 0 ≤ p ∧ p < (n : Int) → ∀ q ∈ s p, 0 ≤ q ∧ q < (n : Int)) (I : List (Int × Int) → Nat → Prop)
    (step : ∀ F k x, Ok n o F → I F k → F[k]? = some x → I (adds o x.1 (s x.1) F) (k + 1)) :
    ∀ (f : Nat) (F : List (Int × Int)) (k : Nat), Ok n o F → k ≤ F.length → n ≤ k + f → I F k → Ok n o (bfs s o f F k) ∧ I (bfs s o f F k) (bfs s o f F k).length
  | 0, F, k, h, hk, hf, hI => by
    have := h.few
    have e : k = F.length := by omega
    subst e
    exact ⟨h, hI⟩
  | f + 1, F, k, h, hk, hf, hI => by
    by_cases hlt : k < F.length
    · obtain ⟨x, hx⟩ : ∃ x, F[k]? = some x := ⟨_, List.getElem?_eq_getElem hlt⟩
      rw [bfs_step s o f F k x hx]
      have hxm := h.pt x (List.mem_of_getElem? hx)
      refine bfs_rec hs I step f _ _ (ok_adds h (hs x.1 hxm)) ?_ (by omega) (step F k x h hI hx)
      have := (adds_pre o x.1 (s x.1) F).length_le
      omega
    · rw [bfs_stop s o _ F k (by omega)]
      have e : k = F.length := by omega
      subst e
      exact ⟨h, hI⟩
theorem found_rec {s : Int → List Int} {o : Int} {n : Nat} {l : List Int} (hs : ∀ p, 0 ≤ p ∧ p < (n : Int) → ∀ q ∈ s p, 0 ≤ q ∧ q < (n : Int)) (hl : ∀ x ∈ l, 0 ≤ x ∧ x < (n : Int)) (I : List (Int × Int) → Nat → Prop) (h0 : I (begins o l []) 0)
    (step : ∀ F k x, Ok n o F → I F k → F[k]? = some x → I (adds o x.1 (s x.1) F) (k + 1)) : Ok n o (foundL s o n l) ∧ I (foundL s o n l) (foundL s o n l).length :=
  bfs_rec hs I step n _ 0 (ok_begins (ok_nil n o) hl) (Nat.zero_le _) (by omega) h0
/-- A way that avoids a point. -/
inductive Av (s : Int → List Int) (o : Int) (a : Int) : Int → Prop
  | refl : a ≠ o → Av s o a a
  | step {p q : Int} : Av s o a p → q ∈ s p → q ≠ o → Av s o a q
theorem mem_add {o x p : Int} {F : List (Int × Int)} {y : Int × Int} (h : y ∈ add o F x p) : y ∈ F ∨ y = (x, p) := by
  unfold add at h
  split at h
  · exact .inl h
  · simpa using h
theorem mem_adds {o p : Int} : ∀ {l : List Int} {F : List (Int × Int)} {y : Int × Int}, y ∈ adds o p l F → y ∈ F ∨ (y.2 = p ∧ y.1 ∈ l)
  | [], _, _, h => .inl h
  | x :: l, _, _, h => by
    rcases mem_adds (l := l) h with h | h
    · rcases mem_add h with h | rfl
      · exact .inl h
      · exact .inr ⟨rfl, by simp⟩
    · exact .inr ⟨h.1, by simp [h.2]⟩
theorem mem_begins {o : Int} : ∀ {l : List Int} {F : List (Int × Int)} {y : Int × Int}, y ∈ begins o l F → y ∈ F ∨ (y.2 = y.1 ∧ y.1 ∈ l)
  | [], _, _, h => .inl h
  | x :: l, _, _, h => by
    rcases mem_begins (l := l) h with h | h
    · rcases mem_add h with h | rfl
      · exact .inl h
      · exact .inr ⟨rfl, by simp⟩
    · exact .inr ⟨h.1, by simp [h.2]⟩
theorem add_has {o x p : Int} {F : List (Int × Int)} (h : x ≠ o) : x ∈ (add o F x p).map Prod.fst := by
  unfold add
  split
  · rename_i hc
    rcases hc with hc | hc
    · exact hc
    · exact absurd hc h
  · simp
theorem pre_has {F G : List (Int × Int)} (h : F <+: G) {x : Int} (hx : x ∈ F.map Prod.fst) : x ∈ G.map Prod.fst := by
  obtain ⟨t, rfl⟩ := h
  rw [List.map_append]
  exact List.mem_append_left _ hx
theorem adds_has {o p : Int} : ∀ {l : List Int} {F : List (Int × Int)} {x : Int}, x ∈ l → x ≠ o → x ∈ (adds o p l F).map Prod.fst
  | y :: l, F, x, hx, ho => by
    rcases List.mem_cons.1 hx with rfl | hx
    · exact pre_has (adds_pre o p l _) (add_has ho)
    · exact adds_has (l := l) hx ho
theorem begins_has {o : Int} : ∀ {l : List Int} {F : List (Int × Int)} {x : Int}, x ∈ l → x ≠ o → x ∈ (begins o l F).map Prod.fst
  | y :: l, F, x, hx, ho => by
    rcases List.mem_cons.1 hx with rfl | hx
    · exact pre_has (begins_pre o l _) (add_has ho)
    · exact begins_has (l := l) hx ho
/-- What is found is what is reached. -/
theorem found_mem {s : Int → List Int} {o : Int} {n : Nat} {l : List Int} (hs : ∀ p, 0 ≤ p ∧ p < (n : Int) → ∀ q ∈ s p, 0 ≤ q ∧ q < (n : Int)) (hl : ∀ x ∈ l, 0 ≤ x ∧ x < (n : Int)) (p : Int) :
    p ∈ (foundL s o n l).map Prod.fst ↔ ∃ a ∈ l, Av s o a p := by
  have h1 := found_rec (o := o) hs hl (fun F k => (∀ y ∈ F, ∃ a ∈ l, Av s o a y.1) ∧ (∀ j, j < k → ∀ y, F[j]? = some y → ∀ q ∈ s y.1, q ≠ o → q ∈ F.map Prod.fst) ∧ ∀ a ∈ l, a ≠ o → a ∈ F.map Prod.fst) ?_ ?_
  · obtain ⟨hok, h1, h2, h3⟩ := h1
    constructor
    · intro hp
      obtain ⟨y, hy, rfl⟩ := List.mem_map.1 hp
      exact h1 y hy
    · rintro ⟨a, ha, hav⟩
      induction hav with
      | refl ho => exact h3 a ha ho
      | step _ hq ho ih =>
        obtain ⟨y, hy, rfl⟩ := List.mem_map.1 ih
        obtain ⟨j, hj⟩ := List.mem_iff_getElem?.1 hy
        have hjl := (List.getElem?_eq_some_iff.1 hj).1
        exact h2 j hjl y hj _ hq ho
  · refine ⟨fun y hy => ?_, fun j hj => by omega, fun a ha ho => begins_has ha ho⟩
    have hok := ok_begins (ok_nil n o) hl
    rcases mem_begins hy with h | ⟨h, hm⟩
    · simp at h
    · exact ⟨y.1, hm, .refl (hok.out y hy)⟩
  · rintro F k x hok ⟨h1, h2, h3⟩ hx
    have hpre := adds_pre o x.1 (s x.1) F
    have hxm := List.mem_of_getElem? hx
    refine ⟨fun y hy => ?_, fun j hj y hy q hq ho => ?_, fun a ha ho => pre_has hpre (h3 a ha ho)⟩
    · have hok2 := ok_adds (p := x.1) hok (hs x.1 (hok.pt x hxm))
      rcases mem_adds hy with h | ⟨h, hm⟩
      · exact h1 y h
      · obtain ⟨a, ha, hav⟩ := h1 x hxm
        exact ⟨a, ha, .step hav hm (hok2.out y hy)⟩
    · by_cases hjk : j = k
      · subst hjk
        have hjl := (List.getElem?_eq_some_iff.1 hx).1
        obtain ⟨t, ht⟩ := hpre
        rw [← ht, List.getElem?_append_left hjl, hx] at hy
        cases hy
        exact adds_has hq ho
      · have hjl : j < F.length := by
          have := (List.getElem?_eq_some_iff.1 hx).1
          omega
        have hy2 : F[j]? = some y := by
          obtain ⟨t, ht⟩ := hpre
          rw [← ht, List.getElem?_append_left hjl] at hy
          exact hy
        exact pre_has hpre (h2 j (by omega) y hy2 q hq ho)
end Go.Proofs.Ythpdflpkkiabhaa
