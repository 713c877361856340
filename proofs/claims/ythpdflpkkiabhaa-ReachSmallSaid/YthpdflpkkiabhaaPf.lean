/-
  Layer 7, plain: how far what is found is. No condition.
-/
import Derived.Test.YthpdflpkkiabhaaWy
namespace Go.Proofs.Ythpdflpkkiabhaa
set_option linter.unusedVariables false
def dW (n : Nat) (F : List (Int × Int)) (y : Int) : Int := (goW n F).getD y.toNat 0
theorem dW_snoc {n : Nat} {F : List (Int × Int)} {x p y : Int} (hx : 0 ≤ x ∧ x < n) (hy : 0 ≤ y) : dW n (F ++ [(x, p)]) y = if y = x then dW n F p + 1 else dW n F y := by
  unfold dW
  rw [goW_snoc, stepW, getD_set (by rw [goW_length]; simp only; omega)]
  simp only
  by_cases h : y = x
  · subst h
    rw [if_pos rfl, if_pos rfl]
  · rw [if_neg (by omega), if_neg h]
/-- How far each one is, as far as the search has come. -/
structure Dep (sc : Int → List Int) (n : Nat) (st : Int) (F : List (Int × Int)) (k : Nat) : Prop where
  hd : F[0]? = some (st, st)
  led : ∀ (i : Nat) (a : Int × Int), 0 < i → F[i]? = some a → ∃ (j : Nat) (b : Int × Int), j < i ∧ F[j]? = some b ∧ b.1 = a.2 ∧ a.1 ∈ sc a.2 ∧ dW n F a.1 = dW n F a.2 + 1
  mono : ∀ (i j : Nat) (a b : Int × Int), i ≤ j → F[i]? = some a → F[j]? = some b → dW n F a.1 ≤ dW n F b.1
  near : ∀ (j : Nat) (b c : Int × Int), F[k]? = some c → F[j]? = some b → dW n F b.1 ≤ dW n F c.1 + 1
  done : ∀ (i : Nat) (a : Int × Int), i < k → F[i]? = some a → ∀ q ∈ sc a.1, q ∈ F.map Prod.fst ∧ dW n F q ≤ dW n F a.1 + 1
  st0 : dW n F st = 0
  out : ∀ y : Int, 0 ≤ y → y < (n : Int) → y ∉ F.map Prod.fst → dW n F y = -1
  nn : ∀ a ∈ F, 0 ≤ dW n F a.1
theorem getP {F : List (Int × Int)} {x : Int} (h : x ∈ F.map Prod.fst) : ∃ (j : Nat) (b : Int × Int), F[j]? = some b ∧ b.1 = x := by
  obtain ⟨b, hb, rfl⟩ := List.mem_map.1 h
  obtain ⟨j, hj⟩ := List.mem_iff_getElem?.1 hb
  exact ⟨j, b, hj, rfl⟩
theorem mem_fst {F : List (Int × Int)} {i : Nat} {a : Int × Int} (h : F[i]? = some a) : a.1 ∈ F.map Prod.fst := List.mem_map.2 ⟨a, List.mem_of_getElem? h, rfl⟩
theorem dep_add {sc : Int → List Int} {n : Nat} {st : Int} {F : List (Int × Int)} {k : Nat} {c : Int × Int} {x : Int} (hok : Ok n (-1) F) (h : Dep sc n st F k) (hc : F[k]? = some c) (hx : x ∈ sc c.1) (hxn : 0 ≤ x ∧ x < (n : Int)) :
    Dep sc n st (add (-1) F x c.1) k ∧ (add (-1) F x c.1)[k]? = some c ∧ (∀ q ∈ F.map Prod.fst, q ∈ (add (-1) F x c.1).map Prod.fst ∧ dW n (add (-1) F x c.1) q = dW n F q) ∧ x ∈ (add (-1) F x c.1).map Prod.fst ∧ dW n (add (-1) F x c.1) x ≤ dW n (add (-1) F x c.1) c.1 + 1 := by
  by_cases hm : x ∈ F.map Prod.fst
  · have e : add (-1) F x c.1 = F := by unfold add; rw [if_pos (.inl hm)]
    rw [e]
    obtain ⟨j, b, hj, rfl⟩ := getP hm
    exact ⟨h, hc, fun q hq => ⟨hq, rfl⟩, hm, h.near j b c hc hj⟩
  · have e : add (-1) F x c.1 = F ++ [(x, c.1)] := by
      unfold add
      rw [if_neg]
      rintro (h1 | h1)
      · exact hm h1
      · omega
    rw [e]
    have hpt : ∀ y ∈ F.map Prod.fst, 0 ≤ y := fun y hy => by
      obtain ⟨b, hb, rfl⟩ := List.mem_map.1 hy
      exact (hok.pt b hb).1
    have hsame : ∀ q ∈ F.map Prod.fst, dW n (F ++ [(x, c.1)]) q = dW n F q := fun q hq => by
      rw [dW_snoc hxn (hpt q hq), if_neg (by rintro rfl; exact hm hq)]
    have hnew : dW n (F ++ [(x, c.1)]) x = dW n F c.1 + 1 := by rw [dW_snoc hxn hxn.1, if_pos rfl]
    have hcl := (List.getElem?_eq_some_iff.1 hc).1
    have split : ∀ (i : Nat) (a : Int × Int), (F ++ [(x, c.1)])[i]? = some a → F[i]? = some a ∨ (i = F.length ∧ a = (x, c.1)) := fun i a hi => by
      by_cases hl : i < F.length
      · rw [List.getElem?_append_left hl] at hi
        exact .inl hi
      · rw [List.getElem?_append_right (by omega)] at hi
        have hi2 := (List.getElem?_eq_some_iff.1 hi).1
        simp at hi2
        have : i = F.length := by omega
        subst this
        simp at hi
        exact .inr ⟨rfl, hi.symm⟩
    have keep : ∀ (i : Nat) (a : Int × Int), F[i]? = some a → (F ++ [(x, c.1)])[i]? = some a := fun i a hi => by
      rw [List.getElem?_append_left (List.getElem?_eq_some_iff.1 hi).1]
      exact hi
    have hcs := hsame c.1 (mem_fst hc)
    refine ⟨⟨keep _ _ h.hd, ?_, ?_, ?_, ?_, ?_, ?_, ?_⟩, keep _ _ hc, fun q hq => ⟨by rw [List.map_append]; exact List.mem_append_left _ hq, hsame q hq⟩, by simp, by rw [hnew, hcs]; exact Int.le_refl _⟩
    · intro i a hi ha
      rcases split i a ha with h1 | ⟨rfl, rfl⟩
      · obtain ⟨j, b, h2, h3, h4, h5, h6⟩ := h.led i a hi h1
        refine ⟨j, b, h2, keep _ _ h3, h4, h5, ?_⟩
        rw [hsame _ (mem_fst h1), ← h4, hsame _ (mem_fst h3), h4]
        exact h6
      · exact ⟨k, c, hcl, keep _ _ hc, rfl, hx, by simp only; rw [hnew, hcs]⟩
    · intro i j a b hij ha hb
      rcases split j b hb with h2 | ⟨rfl, rfl⟩
      · rcases split i a ha with h1 | ⟨rfl, rfl⟩
        · rw [hsame _ (mem_fst h1), hsame _ (mem_fst h2)]
          exact h.mono i j a b hij h1 h2
        · have := (List.getElem?_eq_some_iff.1 h2).1
          omega
      · rcases split i a ha with h1 | ⟨_, rfl⟩
        · simp only
          rw [hsame _ (mem_fst h1), hnew]
          exact h.near i a c hc h1
        · exact Int.le_refl _
    · intro j b c2 hc2 hb
      rcases split k c2 hc2 with h1 | ⟨h1, _⟩
      · rw [hc] at h1
        cases h1
        rcases split j b hb with h2 | ⟨rfl, rfl⟩
        · rw [hsame _ (mem_fst h2), hcs]
          exact h.near j b c hc h2
        · simp only
          rw [hnew, hcs]
          exact Int.le_refl _
      · omega
    · intro i a hi ha q hq
      rcases split i a ha with h1 | ⟨rfl, _⟩
      · obtain ⟨h2, h3⟩ := h.done i a hi h1 q hq
        refine ⟨by rw [List.map_append]; exact List.mem_append_left _ h2, ?_⟩
        rw [hsame q h2, hsame _ (mem_fst h1)]
        exact h3
      · omega
    · rw [hsame _ (mem_fst h.hd)]
      exact h.st0
    · intro y hy0 hyn hy
      rw [List.map_append] at hy
      rw [dW_snoc hxn hy0, if_neg (by rintro rfl; exact hy (by simp))]
      exact h.out y hy0 hyn (fun hq => hy (List.mem_append_left _ hq))
    · intro a ha
      rcases List.mem_append.1 ha with h1 | h1
      · rw [hsame _ (List.mem_map.2 ⟨a, h1, rfl⟩)]
        exact h.nn a h1
      · rw [List.mem_singleton.1 h1]
        simp only
        rw [hnew]
        have := h.nn c (List.mem_of_getElem? hc)
        omega
theorem dep_adds {sc : Int → List Int} {n : Nat} {st : Int} {k : Nat} {c : Int × Int} : ∀ (l : List Int) (F : List (Int × Int)), Ok n (-1) F → Dep sc n st F k → F[k]? = some c → (∀ x ∈ l, x ∈ sc c.1 ∧ 0 ≤ x ∧ x < (n : Int)) →
    Dep sc n st (adds (-1) c.1 l F) k ∧ (adds (-1) c.1 l F)[k]? = some c ∧ (∀ q ∈ F.map Prod.fst, q ∈ (adds (-1) c.1 l F).map Prod.fst ∧ dW n (adds (-1) c.1 l F) q = dW n F q) ∧ ∀ x ∈ l, x ∈ (adds (-1) c.1 l F).map Prod.fst ∧ dW n (adds (-1) c.1 l F) x ≤ dW n (adds (-1) c.1 l F) c.1 + 1
  | [], F, hok, h, hc, hl => ⟨h, hc, fun q hq => ⟨hq, rfl⟩, fun x hx => by simp at hx⟩
  | x :: l, F, hok, h, hc, hl => by
    obtain ⟨h1, h2, h3, h4, h5⟩ := dep_add hok h hc (hl x (by simp)).1 (hl x (by simp)).2
    obtain ⟨g1, g2, g3, g4⟩ := dep_adds l (add (-1) F x c.1) (ok_add hok (hl x (by simp)).2) h1 h2 (fun y hy => hl y (by simp [hy]))
    refine ⟨g1, g2, fun q hq => ⟨(g3 q (h3 q hq).1).1, (g3 q (h3 q hq).1).2.trans (h3 q hq).2⟩, fun y hy => ?_⟩
    rcases List.mem_cons.1 hy with rfl | hy
    · refine ⟨(g3 _ h4).1, ?_⟩
      show dW n (adds (-1) c.1 l (add (-1) F _ c.1)) _ ≤ dW n (adds (-1) c.1 l (add (-1) F _ c.1)) c.1 + 1
      rw [(g3 _ h4).2, (g3 c.1 (h3 c.1 (mem_fst hc)).1).2]
      exact h5
    · exact g4 y hy
/-- How far all that is found is. -/
theorem found_dep {sc : Int → List Int} {n : Nat} {st : Int} (hs : ∀ p, 0 ≤ p ∧ p < (n : Int) → ∀ q ∈ sc p, 0 ≤ q ∧ q < (n : Int)) (hst : 0 ≤ st ∧ st < (n : Int)) :
    Ok n (-1) (foundL sc (-1) n [st]) ∧ Dep sc n st (foundL sc (-1) n [st]) (foundL sc (-1) n [st]).length := by
  refine found_rec (o := -1) hs (l := [st]) (fun x hx => by rw [List.mem_singleton.1 hx]; exact hst) (fun F k => Dep sc n st F k) ?_ ?_
  · have e : begins (-1) [st] [] = [(st, st)] := by
      simp only [begins, add]
      rw [if_neg]
      · rfl
      · rintro (h | h)
        · simp at h
        · omega
    rw [e]
    have e0 : dW n [] st = -1 := by
      unfold dW goW
      simp only [List.foldl_nil]
      rw [getD_num (by simp; omega), List.getElem_replicate]
    have e1 : dW n [(st, st)] st = 0 := by
      have := dW_snoc (n := n) (F := []) (x := st) (p := st) (y := st) hst hst.1
      rw [if_pos rfl, e0] at this
      exact this
    have one : ∀ (i : Nat) (a : Int × Int), [(st, st)][i]? = some a → i = 0 ∧ a = (st, st) := fun i a h => by
      have := (List.getElem?_eq_some_iff.1 h).1
      simp at this
      subst this
      simp at h
      exact ⟨rfl, h.symm⟩
    refine ⟨rfl, ?_, ?_, ?_, ?_, e1, ?_, ?_⟩
    · intro i a hi ha
      have := (one i a ha).1
      omega
    · intro i j a b _ ha hb
      rw [(one i a ha).2, (one j b hb).2]
      exact Int.le_refl _
    · intro j b c hc hb
      rw [(one _ c hc).2, (one j b hb).2]
      omega
    · intro i a hi
      omega
    · intro y hy0 hyn hy
      have := dW_snoc (n := n) (F := []) (x := st) (p := st) (y := y) hst hy0
      rw [if_neg (by rintro rfl; exact hy (by simp))] at this
      rw [show ([(st, st)] : List (Int × Int)) = [] ++ [(st, st)] from rfl, this]
      unfold dW goW
      simp only [List.foldl_nil]
      rw [getD_num (by simp; omega), List.getElem_replicate]
    · intro a ha
      rw [List.mem_singleton.1 ha, e1]
      omega
  · intro F k c hok h hc
    have hcn := hok.pt c (List.mem_of_getElem? hc)
    obtain ⟨h1, h2, h3, h4⟩ := dep_adds (sc c.1) F hok h hc (fun x hx => ⟨hx, hs c.1 hcn x hx⟩)
    refine ⟨h1.hd, h1.led, h1.mono, ?_, ?_, h1.st0, h1.out, h1.nn⟩
    · intro j b e he hb
      have := h1.near j b c h2 hb
      have := h1.mono k (k + 1) c e (by omega) h2 he
      omega
    · intro i a hi ha q hq
      by_cases hik : i < k
      · exact h1.done i a hik ha q hq
      · have : i = k := by omega
        subst this
        rw [h2] at ha
        cases ha
        exact h4 q hq
end Go.Proofs.Ythpdflpkkiabhaa
