/-
  The plain law of numbering: keys alike, finer, tied; refining. No program in sight; no condition.
-/
import Derived.Test.YtkcbahfmdokalaaA
namespace Go.Proofs.Ytkcbahfmdokalaa
section
variable {α : Type} [BEq α] [LawfulBEq α] [DecidableEq α] {β : Type} [BEq β] [LawfulBEq β] [DecidableEq β]
set_option linter.unusedSectionVars false
/-- The keys that came, in the order in which they came. -/
def firsts (met : List α) : List α → List α
  | [] => met
  | x :: r => if x ∈ met then firsts met r else firsts (met ++ [x]) r
theorem firsts_pre : ∀ (L met : List α), ∃ t, firsts met L = met ++ t
  | [], met => ⟨[], by simp [firsts]⟩
  | x :: r, met => by
    unfold firsts
    split
    · exact firsts_pre r met
    · obtain ⟨t, ht⟩ := firsts_pre r (met ++ [x])
      exact ⟨x :: t, by rw [ht]; simp⟩
theorem firsts_mem : ∀ (L met : List α) (x : α), x ∈ firsts met L ↔ x ∈ met ∨ x ∈ L
  | [], met, x => by simp [firsts]
  | y :: r, met, x => by
    unfold firsts
    split
    · rename_i h
      rw [firsts_mem r met x, List.mem_cons]
      constructor
      · rintro (h1 | h1)
        · exact .inl h1
        · exact .inr (.inr h1)
      · rintro (h1 | h1 | h1)
        · exact .inl h1
        · exact .inl (h1 ▸ h)
        · exact .inr h1
    · rw [firsts_mem r (met ++ [y]) x, List.mem_cons, List.mem_append, List.mem_singleton]
      constructor
      · rintro ((h1 | h1) | h1)
        · exact .inl h1
        · exact .inr (.inl h1)
        · exact .inr (.inr h1)
      · rintro (h1 | h1 | h1)
        · exact .inl (.inl h1)
        · exact .inl (.inr h1)
        · exact .inr h1
theorem firsts_nodup : ∀ (L met : List α), met.Nodup → (firsts met L).Nodup
  | [], met, h => by simpa [firsts] using h
  | y :: r, met, h => by
    unfold firsts
    split
    · exact firsts_nodup r met h
    · rename_i hn
      refine firsts_nodup r _ ?_
      rw [List.nodup_append]
      exact ⟨h, by simp, fun a ha b hb => by
        rw [List.mem_singleton] at hb
        rintro rfl
        exact hn (hb ▸ ha)⟩
theorem idx_pre {a b : List α} {x : α} (h : x ∈ a) : (a ++ b).idxOf x = a.idxOf x := by
  rw [List.idxOf_append, if_pos h]
theorem numb_map : ∀ (L met : List α), numb met L = L.map (fun x => ((firsts met L).idxOf x : Int))
  | [], _ => rfl
  | x :: r, met => by
    unfold numb firsts
    split
    · rename_i h
      obtain ⟨t, ht⟩ := firsts_pre r met
      rw [List.map_cons, numb_map r met, ht, idx_pre h]
    · rename_i h
      obtain ⟨t, ht⟩ := firsts_pre r (met ++ [x])
      rw [List.map_cons, numb_map r (met ++ [x]), ht, idx_pre (by simp)]
      congr 1
      rw [List.idxOf_append, if_neg h]
      simp
theorem numb_append : ∀ (A B met : List α), numb met (A ++ B) = numb met A ++ numb (firsts met A) B
  | [], _, _ => rfl
  | x :: r, B, met => by
    by_cases h : x ∈ met
    · simp only [List.cons_append, numb, firsts, if_pos h, numb_append r B met]
    · simp only [List.cons_append, numb, firsts, if_neg h, numb_append r B (met ++ [x])]
theorem firsts_append : ∀ (A B met : List α), firsts met (A ++ B) = firsts (firsts met A) B
  | [], _, _ => rfl
  | x :: r, B, met => by
    by_cases h : x ∈ met
    · simp only [List.cons_append, firsts, if_pos h, firsts_append r B met]
    · simp only [List.cons_append, firsts, if_neg h, firsts_append r B (met ++ [x])]
theorem idx_inj {a : List α} {x y : α} (hx : x ∈ a) (hy : y ∈ a) (h : a.idxOf x = a.idxOf y) : x = y := by
  have h1 : a[a.idxOf x]'(List.idxOf_lt_length_of_mem hx) = x := List.getElem_idxOf ..
  have h2 : a[a.idxOf y]'(List.idxOf_lt_length_of_mem hy) = y := List.getElem_idxOf ..
  rw [← h1, ← h2]
  congr 1
/-- Numbers are equal just where the keys are. -/
theorem numb_ker (K : List α) {i j : Nat} (hi : i < K.length) (hj : j < K.length) : (numb [] K)[i]'(by rw [numb_length]; exact hi) = (numb [] K)[j]'(by rw [numb_length]; exact hj) ↔ K[i] = K[j] := by
  have e := numb_map K []
  have e1 : (numb [] K)[i]'(by rw [numb_length]; exact hi) = ((firsts [] K).idxOf K[i] : Int) := by simp [e]
  have e2 : (numb [] K)[j]'(by rw [numb_length]; exact hj) = ((firsts [] K).idxOf K[j] : Int) := by simp [e]
  rw [e1, e2]
  constructor
  · intro h
    refine idx_inj (a := firsts [] K) ?_ ?_ (by omega)
    · rw [firsts_mem]; exact .inr (List.getElem_mem hi)
    · rw [firsts_mem]; exact .inr (List.getElem_mem hj)
  · intro h
    rw [h]
theorem idx_map_inj (f : α → β) : ∀ (a : List α) (x : α), (∀ y ∈ a, f y = f x → y = x) → (a.map f).idxOf (f x) = a.idxOf x
  | [], _, _ => rfl
  | y :: r, x, h => by
    rw [List.map_cons, List.idxOf_cons, List.idxOf_cons]
    by_cases e : y = x
    · subst e
      simp
    · have e2 : ¬ f y = f x := fun h2 => e (h y (by simp) h2)
      have b1 : (f y == f x) = false := by simpa using e2
      have b2 : (y == x) = false := by simpa using e
      rw [b1, b2]
      simp only [cond_false]
      rw [idx_map_inj f r x (fun z hz => h z (by simp [hz]))]
theorem numb_map_inj (f : α → β) : ∀ (L met : List α), (∀ x ∈ met ++ L, ∀ y ∈ met ++ L, f x = f y → x = y) → numb (met.map f) (L.map f) = numb met L
  | [], _, _ => rfl
  | x :: r, met, h => by
    have hm : f x ∈ met.map f ↔ x ∈ met := by
      constructor
      · intro hx
        obtain ⟨y, hy, he⟩ := List.mem_map.1 hx
        have := h y (by simp [hy]) x (by simp) he
        exact this ▸ hy
      · exact fun hx => List.mem_map.2 ⟨x, hx, rfl⟩
    rw [List.map_cons]
    by_cases hx : x ∈ met
    · simp only [numb, if_pos hx, if_pos (hm.2 hx)]
      rw [numb_map_inj f r met (fun a ha b hb => h a (by
        rcases List.mem_append.1 ha with h1 | h1
        · simp [h1]
        · simp [h1]) b (by
        rcases List.mem_append.1 hb with h1 | h1
        · simp [h1]
        · simp [h1])), idx_map_inj f met x (fun y hy he => h y (by simp [hy]) x (by simp) he)]
    · simp only [numb, if_neg hx, if_neg (fun e => hx (hm.1 e))]
      have := numb_map_inj f r (met ++ [x]) (fun a ha b hb => h a (by
        simp only [List.append_assoc, List.cons_append, List.nil_append] at ha
        exact ha) b (by
        simp only [List.append_assoc, List.cons_append, List.nil_append] at hb
        exact hb))
      rw [List.map_append] at this
      rw [List.length_map]
      congr 1
theorem numb_of_zip {γ : Type} [BEq γ] [LawfulBEq γ] [DecidableEq γ] (Z : List γ) (f : γ → α) (h : ∀ x ∈ Z, ∀ y ∈ Z, f x = f y → x = y) : numb [] (Z.map f) = numb [] Z :=
  numb_map_inj f Z [] (by simpa using h)
/-- What is alike alike is numbered alike. -/
theorem numb_of_ker (K : List α) (L : List β) (hl : K.length = L.length) (h : ∀ (i j : Nat) (hi : i < K.length) (hj : j < K.length), K[i] = K[j] ↔ L[i] = L[j]) : numb [] K = numb [] L := by
  have hk : K = (K.zip L).map Prod.fst := by
    rw [List.map_fst_zip]
    omega
  have hL : L = (K.zip L).map Prod.snd := by
    rw [List.map_snd_zip]
    omega
  have key : ∀ x ∈ K.zip L, ∀ y ∈ K.zip L, (x.1 = y.1 ↔ x.2 = y.2) := by
    intro x hx y hy
    obtain ⟨i, hi, rfl⟩ := List.mem_iff_getElem.1 hx
    obtain ⟨j, hj, rfl⟩ := List.mem_iff_getElem.1 hy
    simp only [List.length_zip] at hi hj
    simp only [List.getElem_zip]
    exact h i j (by omega) (by omega)
  have e1 := numb_of_zip (K.zip L) Prod.fst (fun x hx y hy he => Prod.ext he ((key x hx y hy).1 he))
  have e2 := numb_of_zip (K.zip L) Prod.snd (fun x hx y hy he => Prod.ext ((key x hx y hy).2 he) he)
  exact ((congrArg (numb []) hk).trans e1).trans ((congrArg (numb []) hL).trans e2).symm
theorem numb_ker_numb (K : List α) : numb [] (numb [] K) = numb [] K :=
  numb_of_ker (numb [] K) K (numb_length K []) (fun i j hi hj => numb_ker K (by rwa [numb_length] at hi) (by rwa [numb_length] at hj))
/-- Two lists have the same numbers just if they are alike alike. -/
theorem numb_eq_iff (K : List α) (L : List β) (hl : K.length = L.length) : numb [] K = numb [] L ↔ ∀ (i j : Nat) (hi : i < K.length) (hj : j < K.length), K[i] = K[j] ↔ L[i] = L[j] := by
  constructor
  · intro h i j hi hj
    rw [← numb_ker K hi hj, ← numb_ker L (by omega) (by omega)]
    simp only [h]
  · exact numb_of_ker K L hl
/-- How many blocks. -/
theorem firsts_length_le : ∀ (L met : List α), (firsts met L).length ≤ met.length + L.length
  | [], _ => by simp [firsts]
  | x :: r, met => by
    unfold firsts
    split
    · have := firsts_length_le r met
      simp only [List.length_cons]
      omega
    · have := firsts_length_le r (met ++ [x])
      simp only [List.length_append, List.length_cons, List.length_nil] at this ⊢
      omega
theorem numb_bound (K : List α) : ∀ x ∈ numb [] K, 0 ≤ x ∧ x < (firsts [] K).length := by
  intro x hx
  rw [numb_map] at hx
  obtain ⟨y, hy, rfl⟩ := List.mem_map.1 hx
  have := List.idxOf_lt_length_of_mem ((firsts_mem K [] y).2 (.inr hy))
  omega
/-- Each number below is there. -/
theorem numb_onto (K : List α) (b : Nat) (hb : b < (firsts [] K).length) : (b : Int) ∈ numb [] K := by
  rw [numb_map]
  have hm := (firsts_mem K [] (firsts [] K)[b]).1 (List.getElem_mem hb)
  rcases hm with h | h
  · cases h
  · refine List.mem_map.2 ⟨_, h, ?_⟩
    have hn := firsts_nodup K [] List.nodup_nil
    rw [List.Nodup.idxOf_getElem hn]
end
/-- A partition: its own numbers. -/
def IsP (p : List Int) : Prop := numb [] p = p
instance (p : List Int) : Decidable (IsP p) := inferInstanceAs (Decidable (_ = _))
theorem getD_num {xs : List Int} {i : Nat} (h : i < xs.length) : xs.getD i 0 = xs[i] := by
  rw [List.getD_eq_getElem?_getD, List.getElem?_eq_getElem h]
  rfl
theorem num_ker (K : List Int) {i j : Nat} (hi : i < K.length) (hj : j < K.length) : (numb [] K).getD i 0 = (numb [] K).getD j 0 ↔ K.getD i 0 = K.getD j 0 := by
  rw [getD_num (by rwa [numb_length]), getD_num (by rwa [numb_length]), getD_num hi, getD_num hj]
  exact numb_ker K hi hj
/-- The same way alike. -/
def SameKer (n : Nat) (K L : List Int) : Prop := ∀ i j, i < n → j < n → (K.getD i 0 = K.getD j 0 ↔ L.getD i 0 = L.getD j 0)
theorem numb_of_same (K L : List Int) (hl : K.length = L.length) (h : SameKer K.length K L) : numb [] K = numb [] L :=
  numb_of_ker K L hl fun i j hi hj => by
    have := h i j hi hj
    rwa [getD_num hi, getD_num hj, getD_num (by omega), getD_num (by omega)] at this
theorem isP_numb {α : Type} [BEq α] [LawfulBEq α] [DecidableEq α] (K : List α) : IsP (numb [] K) := numb_ker_numb K
theorem isP_ext {p q : List Int} (hp : IsP p) (hq : IsP q) (hl : p.length = q.length) (h : SameKer p.length p q) : p = q := by
  rw [← hp, ← hq]
  exact numb_of_same p q hl h
/-- A list that is the same in each block of p and of q. -/
def Fixes (n : Nat) (p q R : List Int) : Prop := ∀ i j, i < n → j < n → (p.getD i 0 = p.getD j 0 ∨ q.getD i 0 = q.getD j 0) → R.getD i 0 = R.getD j 0
/-- What ties just what must be tied. -/
def Ties (n : Nat) (p q J : List Int) : Prop := Fixes n p q J ∧ ∀ R, Fixes n p q R → ∀ i j, i < n → j < n → J.getD i 0 = J.getD j 0 → R.getD i 0 = R.getD j 0
theorem ties_same {n : Nat} {p q J K : List Int} (h : Ties n p q J) (k : Ties n p q K) : SameKer n J K :=
  fun i j hi hj => ⟨h.2 K k.1 i j hi hj, k.2 J h.1 i j hi hj⟩
def setAll (L : List Int) (x y : Int) : List Int := L.map fun z => if z = x then y else z
def joinStep (st : List Int × List (Int × Int)) (b pi : Int) : List Int × List (Int × Int) :=
  match st.2.lookup b with
  | none => (st.1, (b, pi) :: st.2)
  | some f => (setAll st.1 (st.1.getD pi.toNat 0) (st.1.getD f.toNat 0), st.2)
def joinGo (st : List Int × List (Int × Int)) : List (Int × Int) → List Int × List (Int × Int)
  | [] => st
  | (b, pi) :: r => joinGo (joinStep st b pi) r
def upTo (n : Nat) : List Int := (List.range n).map fun (i : Nat) => (i : Int)
/-- The labels of blocks at the end. -/
def joinLab (p q : List Int) : List Int := (joinGo (upTo p.length, []) (q.zip p)).1
def joinKeys (p q : List Int) : List Int := p.map fun b => (joinLab p q).getD b.toNat 0
def joinL (p q : List Int) : List Int := numb [] (joinKeys p q)
example : joinL [0, 0, 1, 1] [0, 1, 1, 1] = [0, 0, 0, 0] := by decide +kernel
/-- What holds of the labels when k elements are done. -/
structure JInv (n : Nat) (p q : List Int) (k : Nat) (st : List Int × List (Int × Int)) : Prop where
  len : st.1.length = n
  tied : ∀ i j, i < k → j < k → q.getD i 0 = q.getD j 0 → st.1.getD (p.getD i 0).toNat 0 = st.1.getD (p.getD j 0).toNat 0
  least : ∀ R, Fixes n p q R → ∀ i j, i < n → j < n → st.1.getD (p.getD i 0).toNat 0 = st.1.getD (p.getD j 0).toNat 0 → R.getD i 0 = R.getD j 0
  met : ∀ b f, st.2.lookup b = some f → ∃ i, i < k ∧ q.getD i 0 = b ∧ p.getD i 0 = f
  has : ∀ i, i < k → ∃ f, st.2.lookup (q.getD i 0) = some f
theorem setAll_at {L : List Int} {x y : Int} {i : Nat} (h : i < L.length) : (setAll L x y).getD i 0 = if L.getD i 0 = x then y else L.getD i 0 := by
  rw [getD_num (by simpa [setAll] using h), getD_num h]
  simp [setAll]
theorem lookup_cons (b c f : Int) (m : List (Int × Int)) : ((c, f) :: m).lookup b = if b = c then some f else m.lookup b := by
  rw [List.lookup_cons]
  by_cases h : b = c
  · subst h
    simp
  · have : (b == c) = false := by simpa using h
    rw [this, if_neg h]
theorem jinv_step {n : Nat} {p q : List Int} {k : Nat} {st : List Int × List (Int × Int)} (hp : ∀ i, i < n → 0 ≤ p.getD i 0 ∧ p.getD i 0 < n) (hk : k < n) (h : JInv n p q k st) : JInv n p q (k + 1) (joinStep st (q.getD k 0) (p.getD k 0)) := by
  unfold joinStep
  have hb : ∀ i, i < n → (p.getD i 0).toNat < st.1.length := fun i hi => by have := hp i hi; rw [h.len]; omega
  split
  · rename_i hm
    refine ⟨h.len, ?_, h.least, ?_, ?_⟩
    · intro i j hi hj he
      rcases Nat.lt_succ_iff_lt_or_eq.1 hi with h1 | h1
      · rcases Nat.lt_succ_iff_lt_or_eq.1 hj with h2 | h2
        · exact h.tied i j h1 h2 he
        · subst h2
          obtain ⟨f, hf⟩ := h.has i h1
          rw [he, hm] at hf
          cases hf
      · rcases Nat.lt_succ_iff_lt_or_eq.1 hj with h2 | h2
        · subst h1
          obtain ⟨f, hf⟩ := h.has j h2
          rw [← he, hm] at hf
          cases hf
        · rw [h1, h2]
    · intro b f hf
      rw [lookup_cons] at hf
      split at hf
      · rename_i e
        exact ⟨k, by omega, e.symm, by simpa using hf⟩
      · obtain ⟨i, hi, h2⟩ := h.met b f hf
        exact ⟨i, by omega, h2⟩
    · intro i hi
      rw [lookup_cons]
      split
      · exact ⟨_, rfl⟩
      · rename_i e
        rcases Nat.lt_succ_iff_lt_or_eq.1 hi with h1 | h1
        · exact h.has i h1
        · exact absurd (by rw [h1]) e
  · rename_i f hm
    obtain ⟨i0, hi0, hq0, hp0⟩ := h.met _ _ hm
    subst hp0
    have hset : ∀ i, i < n → (setAll st.1 (st.1.getD (p.getD k 0).toNat 0) (st.1.getD (p.getD i0 0).toNat 0)).getD (p.getD i 0).toNat 0 = if st.1.getD (p.getD i 0).toNat 0 = st.1.getD (p.getD k 0).toNat 0 then st.1.getD (p.getD i0 0).toNat 0 else st.1.getD (p.getD i 0).toNat 0 := fun i hi => setAll_at (hb i hi)
    have hnew : ∀ i, i < k + 1 → q.getD i 0 = q.getD k 0 → (setAll st.1 (st.1.getD (p.getD k 0).toNat 0) (st.1.getD (p.getD i0 0).toNat 0)).getD (p.getD i 0).toNat 0 = st.1.getD (p.getD i0 0).toNat 0 := by
      intro i hi he
      rw [hset i (by omega)]
      split
      · rfl
      · rename_i hne
        rcases Nat.lt_succ_iff_lt_or_eq.1 hi with h1 | h1
        · exact h.tied i i0 h1 hi0 (by rw [he, hq0])
        · exact absurd (by rw [h1]) hne
    refine ⟨by simpa [setAll] using h.len, ?_, ?_, ?_, ?_⟩
    · intro i j hi hj he
      by_cases hq : q.getD j 0 = q.getD k 0
      · rw [hnew i hi (he.trans hq), hnew j hj hq]
      · have h1 : i < k := by
          rcases Nat.lt_succ_iff_lt_or_eq.1 hi with h1 | h1
          · exact h1
          · exact absurd (by rw [← he, h1]) hq
        have h2 : j < k := by
          rcases Nat.lt_succ_iff_lt_or_eq.1 hj with h1 | h1
          · exact h1
          · exact absurd (by rw [h1]) hq
        rw [hset i (by omega), hset j (by omega), h.tied i j h1 h2 he]
    · intro R hR i j hi hj he
      have hk0 : R.getD k 0 = R.getD i0 0 := hR k i0 hk (by omega) (.inr hq0.symm)
      have hL := h.least R hR
      rw [hset i hi, hset j hj] at he
      split at he
      · rename_i e1
        split at he
        · rename_i e2
          exact (hL i k hi hk e1).trans (hL j k hj hk e2).symm
        · exact (hL i k hi hk e1).trans (hk0.trans (hL i0 j (by omega) hj he))
      · split at he
        · rename_i e2
          exact (hL i i0 hi (by omega) he).trans (hk0.symm.trans (hL j k hj hk e2).symm)
        · exact hL i j hi hj he
    · intro b f hf
      obtain ⟨i, hi, h2⟩ := h.met b f hf
      exact ⟨i, by omega, h2⟩
    · intro i hi
      rcases Nat.lt_succ_iff_lt_or_eq.1 hi with h1 | h1
      · exact h.has i h1
      · exact ⟨_, by rw [h1]; exact hm⟩
theorem upTo_at {n i : Nat} (h : i < n) : (upTo n).getD i 0 = i := by
  rw [getD_num (by simpa [upTo] using h)]
  simp [upTo]
theorem jinv_start {n : Nat} {p q : List Int} (hp : ∀ i, i < n → 0 ≤ p.getD i 0 ∧ p.getD i 0 < n) : JInv n p q 0 (upTo n, []) :=
  ⟨by simp [upTo], fun i j hi => by omega, fun R hR i j hi hj he => by
    have h1 := hp i hi
    have h2 := hp j hj
    rw [upTo_at (by omega), upTo_at (by omega)] at he
    exact hR i j hi hj (.inl (by omega)), fun b f h => by simp at h, fun i hi => by omega⟩
theorem jinv_go {n : Nat} {p q : List Int} (hp : ∀ i, i < n → 0 ≤ p.getD i 0 ∧ p.getD i 0 < n) (hl : p.length = n) (hq : q.length = n) : ∀ (m k : Nat) (st : List Int × List (Int × Int)), k + m = n → JInv n p q k st → JInv n p q n (joinGo st ((q.zip p).drop k))
  | 0, k, st, hk, h => by
    have : (q.zip p).drop k = [] := List.drop_of_length_le (by simp; omega)
    rw [this]
    have : k = n := by omega
    subst this
    exact h
  | m + 1, k, st, hk, h => by
    have hz : k < (q.zip p).length := by simp; omega
    rw [List.drop_eq_getElem_cons hz]
    have e : (q.zip p)[k] = (q.getD k 0, p.getD k 0) := by
      rw [List.getElem_zip, getD_num (by omega), getD_num (by omega)]
    rw [e]
    exact jinv_go hp hl hq m (k + 1) _ (by omega) (jinv_step hp (by omega) h)
theorem joinKeys_at {p q : List Int} {i : Nat} (hi : i < p.length) : (joinKeys p q).getD i 0 = (joinLab p q).getD (p.getD i 0).toNat 0 := by
  unfold joinKeys
  rw [getD_num (by simpa using hi), List.getElem_map, getD_num hi]
theorem joinKeys_ties {n : Nat} {p q : List Int} (hp : ∀ i, i < n → 0 ≤ p.getD i 0 ∧ p.getD i 0 < n) (hl : p.length = n) (hq : q.length = n) : Ties n p q (joinKeys p q) := by
  have h := jinv_go hp hl hq n 0 _ (by omega) (jinv_start hp)
  have e : joinLab p q = (joinGo (upTo n, []) ((q.zip p).drop 0)).1 := by rw [joinLab, hl, List.drop_zero]
  constructor
  · intro i j hi hj he
    rw [joinKeys_at (by omega), joinKeys_at (by omega), e]
    rcases he with he | he
    · rw [he]
    · exact h.tied i j hi hj he
  · intro R hR i j hi hj he
    rw [joinKeys_at (by omega), joinKeys_at (by omega), e] at he
    exact h.least R hR i j hi hj he
theorem ties_numb {n : Nat} {p q J : List Int} (hl : J.length = n) (h : Ties n p q J) : Ties n p q (numb [] J) := by
  constructor
  · intro i j hi hj he
    rw [num_ker J (by omega) (by omega)]
    exact h.1 i j hi hj he
  · intro R hR i j hi hj he
    rw [num_ker J (by omega) (by omega)] at he
    exact h.2 R hR i j hi hj he
theorem isP_bound {p : List Int} (h : IsP p) : ∀ i, i < p.length → 0 ≤ p.getD i 0 ∧ p.getD i 0 < p.length := by
  intro i hi
  have h1 : p.getD i 0 ∈ numb [] p := by
    rw [show numb [] p = p from h, getD_num hi]
    exact List.getElem_mem hi
  have h2 := numb_bound p _ h1
  have h3 := firsts_length_le p []
  simp only [List.length_nil] at h3
  omega
theorem joinL_ties {p q : List Int} (hp : IsP p) (hl : q.length = p.length) : Ties p.length p q (joinL p q) :=
  ties_numb (by simp [joinKeys]) (joinKeys_ties (isP_bound hp) rfl hl)
section
variable {α : Type} [BEq α] [LawfulBEq α] [DecidableEq α] {β : Type} [BEq β] [LawfulBEq β] [DecidableEq β]
set_option linter.unusedSectionVars false
/-- How many blocks a list of keys has. -/
def cnt (K : List α) : Nat := (firsts [] K).length
theorem firsts_len_mono : ∀ (L met : List α), met.length ≤ (firsts met L).length := fun L met => by
  obtain ⟨t, ht⟩ := firsts_pre L met
  rw [ht]
  simp
/-- Keys that are made out of others are no more. -/
theorem cnt_map (g : α → β) : ∀ (K met : List α) (mt : List β), (∀ x ∈ met, g x ∈ mt) → (firsts mt (K.map g)).length + met.length ≤ (firsts met K).length + mt.length
  | [], met, mt, _ => by
    simp only [firsts, List.map_nil]
    omega
  | x :: r, met, mt, h => by
    rw [List.map_cons]
    by_cases hx : x ∈ met
    · have := cnt_map g r met mt h
      simpa only [firsts, if_pos hx, if_pos (h x hx)] using this
    · by_cases hg : g x ∈ mt
      · have := cnt_map g r (met ++ [x]) mt (fun y hy => by
          rcases List.mem_append.1 hy with h1 | h1
          · exact h y h1
          · rw [List.mem_singleton.1 h1]
            exact hg)
        simp only [firsts, if_neg hx, if_pos hg]
        simp only [List.length_append, List.length_cons, List.length_nil] at this
        omega
      · have := cnt_map g r (met ++ [x]) (mt ++ [g x]) (fun y hy => by
          rcases List.mem_append.1 hy with h1 | h1
          · exact List.mem_append.2 (.inl (h y h1))
          · rw [List.mem_singleton.1 h1]
            simp)
        simp only [firsts, if_neg hx, if_neg hg]
        simp only [List.length_append, List.length_cons, List.length_nil] at this
        omega
/-- As many: then the same numbers. -/
theorem cnt_map_eq (g : α → β) : ∀ (K met : List α), (∀ x ∈ met, ∀ y ∈ met, g x = g y → x = y) → (firsts met K).length ≤ (firsts (met.map g) (K.map g)).length → numb (met.map g) (K.map g) = numb met K
  | [], _, _, _ => rfl
  | x :: r, met, hi, h => by
    rw [List.map_cons] at h ⊢
    by_cases hx : x ∈ met
    · have hg : g x ∈ met.map g := List.mem_map.2 ⟨x, hx, rfl⟩
      simp only [firsts, if_pos hx, if_pos hg] at h
      simp only [numb, if_pos hx, if_pos hg]
      rw [cnt_map_eq g r met hi h, idx_map_inj g met x (fun y hy he => hi y hy x hx he)]
    · by_cases hg : g x ∈ met.map g
      · exfalso
        simp only [firsts, if_neg hx, if_pos hg] at h
        have := cnt_map g r (met ++ [x]) (met.map g) (fun y hy => by
          rcases List.mem_append.1 hy with h1 | h1
          · exact List.mem_map.2 ⟨y, h1, rfl⟩
          · rw [List.mem_singleton.1 h1]
            exact hg)
        simp only [List.length_append, List.length_cons, List.length_nil, List.length_map] at this
        omega
      · simp only [firsts, if_neg hx, if_neg hg] at h
        simp only [numb, if_neg hx, if_neg hg]
        have e : met.map g ++ [g x] = (met ++ [x]).map g := by simp
        rw [e] at h ⊢
        rw [cnt_map_eq g r (met ++ [x]) (fun a ha b hb he => by
          rcases List.mem_append.1 ha with h1 | h1
          · rcases List.mem_append.1 hb with h2 | h2
            · exact hi a h1 b h2 he
            · rw [List.mem_singleton.1 h2] at he ⊢
              exact absurd (List.mem_map.2 ⟨a, h1, he⟩) hg
          · rw [List.mem_singleton.1 h1] at he ⊢
            rcases List.mem_append.1 hb with h2 | h2
            · exact absurd (List.mem_map.2 ⟨b, h2, he.symm⟩) hg
            · exact (List.mem_singleton.1 h2).symm) h]
        simp
theorem cnt_le_length (K : List α) : cnt K ≤ K.length := by
  have := firsts_length_le K []
  simpa [cnt] using this
end
/-- Finer: elements in one block of K are in one block of L. -/
def Fin (n : Nat) (K L : List Int) : Prop := ∀ i j, i < n → j < n → K.getD i 0 = K.getD j 0 → L.getD i 0 = L.getD j 0
theorem fin_zip {K L : List Int} (hl : K.length = L.length) (h : Fin K.length K L) : numb [] K = numb [] (K.zip L) := by
  refine numb_of_ker K (K.zip L) (by simp [hl]) fun i j hi hj => ?_
  have h2 := h i j hi hj
  rw [getD_num hi, getD_num hj, getD_num (by omega), getD_num (by omega)] at h2
  simp only [List.getElem_zip, Prod.mk.injEq]
  exact ⟨fun e => ⟨e, h2 e⟩, fun e => e.1⟩
theorem zip_snd {K L : List Int} (hl : K.length = L.length) : (K.zip L).map Prod.snd = L := by
  rw [List.map_snd_zip]
  omega
theorem zip_fst {K L : List Int} (hl : K.length = L.length) : (K.zip L).map Prod.fst = K := by
  rw [List.map_fst_zip]
  omega
theorem firsts_map_inj {α β : Type} [BEq α] [LawfulBEq α] [DecidableEq α] [BEq β] [LawfulBEq β] [DecidableEq β] (f : α → β) : ∀ (L met : List α), (∀ x ∈ met ++ L, ∀ y ∈ met ++ L, f x = f y → x = y) → firsts (met.map f) (L.map f) = (firsts met L).map f
  | [], _, _ => rfl
  | x :: r, met, h => by
    have hm : f x ∈ met.map f ↔ x ∈ met := by
      constructor
      · intro hx
        obtain ⟨y, hy, he⟩ := List.mem_map.1 hx
        have := h y (by simp [hy]) x (by simp) he
        exact this ▸ hy
      · exact fun hx => List.mem_map.2 ⟨x, hx, rfl⟩
    rw [List.map_cons]
    by_cases hx : x ∈ met
    · simp only [firsts, if_pos hx, if_pos (hm.2 hx)]
      exact firsts_map_inj f r met (fun a ha b hb => h a (by
        rcases List.mem_append.1 ha with h1 | h1
        · simp [h1]
        · simp [h1]) b (by
        rcases List.mem_append.1 hb with h1 | h1
        · simp [h1]
        · simp [h1]))
    · simp only [firsts, if_neg hx, if_neg (fun e => hx (hm.1 e))]
      have := firsts_map_inj f r (met ++ [x]) (fun a ha b hb => h a (by
        simp only [List.append_assoc, List.cons_append, List.nil_append] at ha
        exact ha) b (by
        simp only [List.append_assoc, List.cons_append, List.nil_append] at hb
        exact hb))
      rw [List.map_append] at this
      exact this
theorem cnt_numb {α : Type} [BEq α] [LawfulBEq α] [DecidableEq α] (K : List α) : cnt (numb [] K) = cnt K := by
  have e := numb_map K []
  have := firsts_map_inj (fun x => ((firsts [] K).idxOf x : Int)) K [] (fun x hx y hy h => by
    simp only [List.nil_append] at hx hy
    exact idx_inj ((firsts_mem K [] x).2 (.inr hx)) ((firsts_mem K [] y).2 (.inr hy)) (by omega))
  rw [← e] at this
  unfold cnt
  simp only [List.map_nil] at this
  rw [this, List.length_map]
theorem cnt_fin {K L : List Int} (hl : K.length = L.length) (h : Fin K.length K L) : cnt L ≤ cnt K := by
  have h1 := cnt_map Prod.snd (K.zip L) [] [] (by simp)
  rw [zip_snd hl] at h1
  have h2 : cnt (K.zip L) = cnt K := by
    rw [← cnt_numb (K.zip L), ← fin_zip hl h, cnt_numb]
  unfold cnt at *
  simp only [List.length_nil, Nat.add_zero] at h1
  omega
theorem fin_eq {K L : List Int} (hl : K.length = L.length) (h : Fin K.length K L) (hc : cnt K ≤ cnt L) : numb [] L = numb [] K := by
  have h2 : cnt (K.zip L) = cnt K := by
    rw [← cnt_numb (K.zip L), ← fin_zip hl h, cnt_numb]
  have := cnt_map_eq Prod.snd (K.zip L) [] (by simp) (by
    simp only [List.map_nil]
    rw [zip_snd hl]
    show cnt (K.zip L) ≤ cnt L
    omega)
  simp only [List.map_nil] at this
  rw [zip_snd hl] at this
  rw [this, ← fin_zip hl h]
/-- One element's key: its block, how many come next, and their blocks. -/
def keyOf1 (p : List Int) (b : Int) (l : List Int) : List Int := b :: (l.length : Int) :: (l.map (fun x => p.getD x.toNat 0) ++ List.replicate (64 - l.length) 0)
theorem keyOf1_inj {p : List Int} {b c : Int} {l m : List Int} : keyOf1 p b l = keyOf1 p c m ↔ b = c ∧ l.map (fun x => p.getD x.toNat 0) = m.map (fun x => p.getD x.toNat 0) := by
  unfold keyOf1
  constructor
  · intro h
    simp only [List.cons.injEq] at h
    obtain ⟨h1, h2, h3⟩ := h
    refine ⟨h1, ?_⟩
    exact (List.append_inj h3 (by simp only [List.length_map]; omega)).1
  · rintro ⟨rfl, h2⟩
    have hl : l.length = m.length := by
      have := congrArg List.length h2
      simpa using this
    rw [h2, hl]
def keysR (p : List Int) (next : List (List Int)) : List (List Int) := (p.zip next).map fun x => keyOf1 p x.1 x.2
def refineL (p : List Int) (next : List (List Int)) : List Int := numb [] (keysR p next)
/-- Two elements agree. -/
def Agree (p : List Int) (next : List (List Int)) (i j : Nat) : Prop := p.getD i 0 = p.getD j 0 ∧ (next.getD i []).map (fun x => p.getD x.toNat 0) = (next.getD j []).map (fun x => p.getD x.toNat 0)
theorem getD_numL {α : Type} {xs : List α} {d : α} {i : Nat} (h : i < xs.length) : xs.getD i d = xs[i] := by
  rw [List.getD_eq_getElem?_getD, List.getElem?_eq_getElem h]
  rfl
theorem refineL_length {p : List Int} {next : List (List Int)} (hl : next.length = p.length) : (refineL p next).length = p.length := by
  simp [refineL, numb_length, keysR, hl]
theorem refineL_ker {p : List Int} {next : List (List Int)} (hl : next.length = p.length) {i j : Nat} (hi : i < p.length) (hj : j < p.length) : (refineL p next).getD i 0 = (refineL p next).getD j 0 ↔ Agree p next i j := by
  have hk : (keysR p next).length = p.length := by simp [keysR, hl]
  unfold refineL
  rw [getD_num (by rw [numb_length]; omega), getD_num (by rw [numb_length]; omega), numb_ker (keysR p next) (by omega) (by omega)]
  simp only [keysR, List.getElem_map, List.getElem_zip, keyOf1_inj]
  unfold Agree
  rw [getD_num hi, getD_num hj, getD_numL (by omega), getD_numL (by omega)]
theorem refineL_fin {p : List Int} {next : List (List Int)} (hl : next.length = p.length) : Fin p.length (refineL p next) p :=
  fun _ _ hi hj h => ((refineL_ker hl hi hj).1 h).1
theorem refineL_isP (p : List Int) (next : List (List Int)) : IsP (refineL p next) := isP_numb _
/-- Stable: nothing is split. -/
theorem stable_iff {p : List Int} {next : List (List Int)} (hp : IsP p) (hl : next.length = p.length) : cnt (refineL p next) = cnt p ↔ refineL p next = p := by
  have hrl := refineL_length (p := p) hl
  constructor
  · intro h
    have := fin_eq (K := refineL p next) (L := p) (by omega) (by rw [hrl]; exact refineL_fin hl) (by omega)
    rw [hp, refineL_isP p next] at this
    exact this.symm
  · intro h
    rw [h]
theorem cnt_refine {p : List Int} {next : List (List Int)} (hl : next.length = p.length) : cnt p ≤ cnt (refineL p next) :=
  cnt_fin (K := refineL p next) (L := p) (by rw [refineL_length hl]) (by rw [refineL_length hl]; exact refineL_fin hl)
/-- Refined until nothing is split: the partition, and how many times that split something. -/
def coarseGo (next : List (List Int)) : Nat → List Int → Nat → List Int × Nat
  | 0, p, c => (p, c)
  | f + 1, p, c => if cnt (refineL p next) = cnt p then (p, c) else coarseGo next f (refineL p next) (c + 1)
def coarseL (p : List Int) (next : List (List Int)) : List Int × Nat := coarseGo next (p.length + 1) p 0
theorem coarseGo_more (next : List (List Int)) : ∀ (f g : Nat) (p : List Int) (c : Nat), next.length = p.length → p.length - cnt p < f → p.length - cnt p < g → coarseGo next f p c = coarseGo next g p c
  | 0, _, _, _, _, h, _ => by omega
  | f + 1, 0, _, _, _, _, h => by omega
  | f + 1, g + 1, p, c, hl, h1, h2 => by
    unfold coarseGo
    split
    · rfl
    · rename_i hne
      have hr := refineL_length (p := p) hl
      have h3 := cnt_refine (p := p) hl
      have h4 := cnt_le_length (refineL p next)
      exact coarseGo_more next f g (refineL p next) (c + 1) (by omega) (by omega) (by omega)
/-- What the loop's state comes to. -/
theorem coarse_now {p : List Int} {next : List (List Int)} (hl : next.length = p.length) (now : List Int) (c : Nat) (hn : now.length = p.length) (hne : ¬ cnt (refineL now next) = cnt now) : coarseGo next (p.length + 1) now c = coarseGo next (p.length + 1) (refineL now next) (c + 1) := by
  have hr := refineL_length (p := now) (next := next) (by omega)
  have e : coarseGo next (p.length + 1) now c = coarseGo next p.length (refineL now next) (c + 1) := by
    conv => lhs; unfold coarseGo
    rw [if_neg hne]
  rw [e]
  have h3 := cnt_refine (p := now) (next := next) (by omega)
  have h4 := cnt_le_length (refineL now next)
  exact coarseGo_more next _ _ _ _ (by omega) (by omega) (by omega)
end Go.Proofs.Ytkcbahfmdokalaa
