/-
  What TimerMore asks: one more timeout put in. No condition.
-/
import Derived.Test.YtbgcglgbaekfeaaU
import Derived.Test.YtbgcglgbaekfeaaQ
namespace Go.Proofs.Ytbgcglgbaekfeaa
open Go.RowKit
attribute [local go_sem] onto_cell onto_frozen dnn
/-- The timeouts of TimerMore. -/
def moreL (zs : List Int) : List Int := (20 :: made zs).take 11
theorem moreL_len (zs : List Int) : 1 ≤ (moreL zs).length ∧ (moreL zs).length ≤ 11 := by
  simp [moreL]; omega
theorem moreL_bd (zs : List Int) : ∀ i, i < (moreL zs).length → 1 ≤ (moreL zs).getD i 0 ∧ (moreL zs).getD i 0 ≤ 30 := by
  intro i hi
  have h : (moreL zs).getD i 0 ∈ moreL zs := by rw [getD_at hi]; exact List.getElem_mem hi
  have h2 := List.mem_of_mem_take h
  rcases List.mem_cons.1 h2 with h3 | h3
  · omega
  · have := made_bd zs _ h3
    exact this
theorem moreL_chk (zs : List Int) : chk (moreL zs) = 0 := chk_good (by have := moreL_len zs; omega) (fun i hi => by have := moreL_bd zs i hi; omega)
theorem ins_chk {ys : List Int} {k : Nat} {x : Int} (hl : ys.length ≤ 11) (hb : ∀ i, i < ys.length → 1 ≤ ys.getD i 0 ∧ ys.getD i 0 ≤ 30) (hk : k ≤ ys.length) (hx : 1 ≤ x ∧ x ≤ 60) : chk (insL ys k x) = 0 := by
  have hlen := insL_len (x := x) hk
  refine chk_good (by omega) (fun i hi => ?_)
  rcases Nat.lt_trichotomy i k with h | h | h
  · rw [insL_lt h hk]; have := hb i (by omega); omega
  · subst h; rw [insL_eq hk]; omega
  · rw [insL_gt h hk]; have := hb (i - 1) (by omega); omega
/-- Which one fires among one more. -/
theorem ins_ofI {ys : List Int} {k : Nat} {x : Int} (hk : k ≤ ys.length) (hx : ys ≠ []) :
    ofI (insL ys k x) = if x < ofT ys ∨ (x = ofT ys ∧ k ≤ ofI ys) then k else if k ≤ ofI ys then ofI ys + 1 else ofI ys := by
  have hlen := insL_len (x := x) hk
  have hI := ofI_lt hx
  have hle := fun j hj => ofK_le ys ys.length j hj
  have hfst := ofK_first ys ys.length
  have e1 : ys.getD (ofK ys ys.length) 0 = ofT ys := rfl
  have e2 : ofK ys ys.length = ofI ys := rfl
  simp only [e1] at hle hfst
  rw [e2] at hfst
  have hT : ys.getD (ofI ys) 0 = ofT ys := rfl
  generalize ofT ys = t at *
  generalize ofI ys = r at *
  have val : ∀ j, j < ys.length + 1 → (j < k ∧ (insL ys k x).getD j 0 = ys.getD j 0) ∨ (j = k ∧ (insL ys k x).getD j 0 = x) ∨ (k < j ∧ (insL ys k x).getD j 0 = ys.getD (j - 1) 0) := by
    intro j hj
    rcases Nat.lt_trichotomy j k with h | h | h
    · exact .inl ⟨h, insL_lt h hk⟩
    · subst h; exact .inr (.inl ⟨rfl, insL_eq hk⟩)
    · exact .inr (.inr ⟨h, insL_gt h hk⟩)
  by_cases h1 : x < t ∨ (x = t ∧ k ≤ r)
  · rw [if_pos h1]
    refine ofI_unique (by omega) (fun j hj => ?_) (fun j hj => ?_)
    · rw [insL_eq hk]
      rcases val j (by omega) with ⟨_, e⟩ | ⟨_, e⟩ | ⟨_, e⟩ <;> rw [e]
      · have := hle j (by omega); omega
      · omega
      · have := hle (j - 1) (by omega); omega
    · rw [insL_eq hk, insL_lt hj hk]
      rcases h1 with h1 | ⟨h1, h2⟩
      · have := hle j (by omega); omega
      · have := hfst j (by omega); omega
  · rw [if_neg h1]
    by_cases h2 : k ≤ r
    · rw [if_pos h2]
      have e : (insL ys k x).getD (r + 1) 0 = t := by rw [insL_gt (by omega) hk]; exact hT
      refine ofI_unique (by omega) (fun j hj => ?_) (fun j hj => ?_)
      · rw [e]
        rcases val j (by omega) with ⟨_, e⟩ | ⟨_, e⟩ | ⟨_, e⟩ <;> rw [e]
        · have := hle j (by omega); omega
        · omega
        · have := hle (j - 1) (by omega); omega
      · rw [e]
        rcases val j (by omega) with ⟨_, e⟩ | ⟨_, e⟩ | ⟨_, e⟩ <;> rw [e]
        · have := hfst j (by omega); omega
        · omega
        · have := hfst (j - 1) (by omega); omega
    · rw [if_neg h2]
      have e : (insL ys k x).getD r 0 = t := by rw [insL_lt (by omega) hk]; exact hT
      refine ofI_unique (by omega) (fun j hj => ?_) (fun j hj => ?_)
      · rw [e]
        rcases val j (by omega) with ⟨_, e⟩ | ⟨_, e⟩ | ⟨_, e⟩ <;> rw [e]
        · have := hle j (by omega); omega
        · omega
        · have := hle (j - 1) (by omega); omega
      · rw [e, insL_lt (by omega) hk]
        exact hfst j hj
/-- A row that a call has made, of n cells that read ys. -/
structure Own (w : World) (g cap n : Nat) (ys : List Int) : Prop where
  cells : ∃ cur : Array Value, w.heap[g]? = some (.cells cur 3 (0, 0)) ∧ cur.size = cap ∧ cur.toList.take n = ys.map (Value.int .i64)
  room : n ≤ cap ∧ cap ≤ 9223372036854775807
theorem Own.alloc {w : World} {g cap n : Nat} {ys : List Int} (h : Own w g cap n ys) (o : Obj) : Own (w.alloc o) g cap n ys := by
  obtain ⟨⟨cur, h1, h2⟩, h3⟩ := h
  exact ⟨⟨cur, (Below.heap_alloc _ _ _ (Array.getElem?_eq_some_iff.1 h1).1).trans h1, h2⟩, h3⟩
theorem Own.lt {w : World} {g cap n : Nat} {ys : List Int} (h : Own w g cap n ys) : g < w.heap.size := by
  obtain ⟨⟨cur, h1, h2⟩, h3⟩ := h
  exact (Array.getElem?_eq_some_iff.1 h1).1
theorem own_of {w : World} {B n : Nat} {v : Value} {ys : List Int} (h : w.ownsRow B 3 1 v n (ys.map (Value.int .i64))) (hn : 0 < n) : ∃ g cap, v = .slice (some ⟨g, 0, none⟩) n cap ∧ B ≤ g ∧ Own w g cap n ys := by
  obtain ⟨hl, h2⟩ := h
  rcases h2 with ⟨rfl, rfl⟩ | ⟨g, cap, cur, rfl, hg, hh, hnc, hcm, hsz, htk⟩
  · omega
  · exact ⟨g, cap, rfl, hg, ⟨⟨cur, hh, by simpa using hsz, by simpa using htk⟩, hnc, hcm⟩⟩
theorem Own.ints {w : World} {g cap n : Nat} {ys : List Int} (h : Own w g cap n ys) (hl : ys.length = n) (hn : n ≤ 17592186044416) : Ints w (some ⟨g, 0, none⟩) n ys := by
  have hg := h.lt
  obtain ⟨⟨cur, h1, h2, h3⟩, h4⟩ := h
  refine ints_cells hl hg hn (fun i hi => ?_)
  have e1 : w.cell? ⟨g, i, none⟩ = cur[i]? := by simp [World.cell?, h1]
  have e2 : cur[i]? = (ys.map (Value.int .i64))[i]? := by
    rw [← h3, List.getElem?_take, if_pos hi]
    simp
  rw [e1, e2, vals_at (by omega)]
theorem Ints.take {w : World} {a : Option Addr} {n m : Nat} {xs : List Int} (h : Ints w a n xs) (hm : m ≤ n) : Ints w a m (xs.take m) := by
  refine ⟨by have := h.len; simp; omega, Nat.le_trans hm h.big, ?_⟩
  rcases h.cell with h1 | ⟨b, off, ha, hb, hc⟩
  · left; omega
  · refine .inr ⟨b, off, ha, hb, fun i hi => ?_⟩
    rw [hc i (by omega)]
    simp [List.getD_eq_getElem?_getD, hi]
theorem clone_own (a : Option Addr) (n cap : Nat) (xs : List Int) (w : World) (h : Ints w a n xs) (hn : 0 < n) :
    Calls Try.prog 25 #[.slice a n cap] w fun e w' => ∃ g c, e = .returned (.slice (some ⟨g, 0, none⟩) n c) ∧ w.heap.size ≤ g ∧ Own w' g c n xs ∧ Keeps Non w w' := by
  refine (clone_any a n cap xs w h).mono ?_
  rintro e w' ⟨v, rfl, ho, hk⟩
  obtain ⟨g, c, rfl, hg, hO⟩ := own_of ho hn
  exact ⟨g, c, rfl, hg, hO, hk⟩
theorem insert_at (g vb n k : Nat) (cap : Nat) (K : Int) (ys : List Int) (x : Int) (w : World) (hl : ys.length = n) (hn0 : 0 < n) (hn : n ≤ 1000) (hk : k ≤ n) (hK : K = (k : Int))
    (hO : Own w g cap n ys) (hv : Blk w vb [.int .i64 x] 3) (hvb : vb ≠ g) :
    Calls Try.prog 24 #[.slice (some ⟨g, 0, none⟩) n cap, .int .i64 K, .slice (some ⟨vb, 0, none⟩) 1 1] w fun e w' => ∃ a' c', e = .returned (.slice a' (n + 1) c') ∧ Ints w' a' (n + 1) (insL ys k x) ∧ Keeps (· = g) w w' := by
  subst hK
  obtain ⟨⟨cur, h1, h2, h3⟩, h4, h5⟩ := hO
  exact insert_any g vb n k cap cur ys x w hl hn0 hn hk h1 h4 h5 h2 h3 hv hvb
theorem first_at (a : Option Addr) (n cap : Nat) (xs : List Int) (J : Int) (w : World) (h : Ints w a n xs) (hc : chk xs = 0) (hx : xs ≠ []) (hJ : (ofI xs : Int) = J) :
    Calls Try.prog 12 #[.slice a n cap] w fun e w' => e = .returned (.tuple #[.int .i64 J, .bool true, .int .i64 0]) ∧ Keeps Non w w' := by
  subst hJ
  exact first_some a n cap xs w h hc hx

end Go.Proofs.Ytbgcglgbaekfeaa
