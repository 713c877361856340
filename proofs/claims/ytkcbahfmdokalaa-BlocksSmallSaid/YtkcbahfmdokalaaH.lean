/-
  Walks over layer 6: count, Count, Of over integers, Meet. No condition.
-/
import Derived.Test.YtkcbahfmdokalaaE
import Derived.Test.YtkcbahfmdokalaaG
namespace Go.Proofs.Ytkcbahfmdokalaa
open Go.RowKit
attribute [local go_sem] onto_cell onto_frozen
set_option linter.unusedVariables false
/-- Numbers that fit. -/
def Good (xs : List Int) : Prop := ∀ x ∈ xs, (Lit.int .i64 x).wf = true
theorem wf_of {x : Int} (h1 : -9223372036854775808 ≤ x) (h2 : x ≤ 9223372036854775807) : (Lit.int .i64 x).wf = true := by
  simp only [Lit.wf, Bool.and_eq_true, decide_eq_true_eq]
  exact ⟨h1, h2⟩
theorem of_wf {x : Int} (h : (Lit.int .i64 x).wf = true) : -9223372036854775808 ≤ x ∧ x ≤ 9223372036854775807 := by
  simp only [Lit.wf, Bool.and_eq_true, decide_eq_true_eq] at h
  exact h
theorem good_numb {α : Type} [BEq α] [LawfulBEq α] [DecidableEq α] (K : List α) (h : K.length ≤ 17592186044416) : Good (numb [] K) := fun x hx => by
  have h1 := numb_bound K x hx
  have h2 := firsts_length_le K []
  simp only [List.length_nil] at h2
  exact wf_of (by omega) (by omega)
theorem isP_good {p : List Int} (hp : IsP p) (h : p.length ≤ 17592186044416) : Good p := by
  rw [← hp]
  exact good_numb p h
theorem foldl_max_ge : ∀ (l : List Int) (a : Int), a ≤ l.foldl max a ∧ ∀ x ∈ l, x ≤ l.foldl max a
  | [], a => ⟨Int.le_refl _, by simp⟩
  | y :: r, a => by
    obtain ⟨h1, h2⟩ := foldl_max_ge r (max a y)
    refine ⟨by simp only [List.foldl_cons]; omega, fun x hx => ?_⟩
    simp only [List.foldl_cons]
    rcases List.mem_cons.1 hx with rfl | h
    · omega
    · exact h2 x h
theorem foldl_max_mem : ∀ (l : List Int) (a : Int), l.foldl max a = a ∨ l.foldl max a ∈ l
  | [], a => .inl rfl
  | y :: r, a => by
    simp only [List.foldl_cons]
    rcases foldl_max_mem r (max a y) with h | h
    · rw [h]
      rcases Int.le_total a y with h2 | h2
      · exact .inr (by rw [Int.max_eq_right h2]; simp)
      · exact .inl (Int.max_eq_left h2)
    · exact .inr (by simp [h])
theorem cnt_max {p : List Int} (hp : IsP p) (h0 : 0 < p.length) : Lib.maxOf p + 1 = (cnt p : Int) := by
  have hb : ∀ x ∈ p, 0 ≤ x ∧ x < cnt p := by
    intro x hx
    have := numb_bound p x (by rw [hp]; exact hx)
    exact this
  obtain ⟨h1, h2⟩ := foldl_max_ge p (p.headD 0)
  have h3 := foldl_max_mem p (p.headD 0)
  have hm : Lib.maxOf p ∈ p := by
    unfold Lib.maxOf
    rcases h3 with h | h
    · rw [h]
      cases p with
      | nil => simp at h0
      | cons a r => simp
    · exact h
  have h4 := hb _ hm
  have hc : 0 < cnt p := by omega
  have h5 := numb_onto p (cnt p - 1) (by unfold cnt at *; omega)
  rw [hp] at h5
  have h6 := h2 _ h5
  unfold Lib.maxOf at *
  omega
theorem isP_nil_cnt {p : List Int} (h : p.length = 0) : cnt p = 0 := by
  have := cnt_le_length p
  omega
theorem count_l (a : Option Addr) (n cap : Nat) (xs : List Int) (w : World) (h : Ints w a n xs) (hp : IsP xs) (hn : n ≤ 1024) :
    Calls Try.prog 55 #[.slice a n cap] w fun e w' => e = .returned (.int .i64 (cnt xs)) ∧ Keeps Non w w' := by
  have hl := h.len
  by_cases h0 : n = 0
  · subst h0
    have HC : Hid (cnt xs = 0) := isP_nil_cnt hl
    clear h hp hl
    go_enter Try.func55, Try.ntmps55
    go_wp2_with fail
    go_ret
    exact ⟨by rw [HC.out]; rfl, Keeps.refl _ _⟩
  · obtain ⟨b, off, rfl, hb, hc⟩ := h.at (by omega)
    have hm := cnt_max hp (by omega)
    have hcl := cnt_le_length xs
    have HM := hide hm
    have HC := hide (Try.slices_Max_int b off n cap xs w (by omega) (by omega) (by omega) (fun j hj => hc j (by omega)))
    rw [← hl, List.take_length, hl] at HC
    obtain ⟨m, hmm⟩ : ∃ m, Lib.maxOf xs = m := ⟨_, rfl⟩
    rw [hmm] at HC HM
    have y1 : -1 ≤ m := by have := HM.out; omega
    have y2 : m ≤ 1024 := by have := HM.out; omega
    have y3 : ¬ (n : Int) = 0 := by omega
    clear hmm hm h hp hl hc hcl
    go_enter Try.func55, Try.ntmps55
    go_wp2_with fail
    refine HC.out.mono ?_
    rintro e w2 ⟨rfl, rfl⟩
    go_wp2_with fail
    go_ret
    exact ⟨by rw [← HM.out]; rfl, Keeps.refl _ _⟩
theorem rightB_iff {xs : List Int} : rightB xs = true ↔ xs.length ≤ 1024 ∧ IsP xs := by
  unfold rightB IsP
  simp
theorem rightB_not {xs : List Int} (h : ¬ rightB xs = true) : rightB xs = false := by
  cases hb : rightB xs with
  | false => rfl
  | true => exact absurd hb h
/-- Count's answer. -/
def countR (xs : List Int) : Int × Int := if rightB xs = true then (cnt xs, 0) else (0, 60)
theorem countE_l (a : Option Addr) (n cap : Nat) (xs : List Int) (w : World) (h : Ints w a n xs) (hg : Good xs) :
    Calls Try.prog 34 #[.slice a n cap] w fun e w' => e = .returned (.tuple #[.int .i64 (countR xs).1, .int .i64 (countR xs).2]) ∧ Keeps Non w w' := by
  by_cases hr : rightB xs = true
  · have HE : Hid (countR xs = ((cnt xs : Int), 0)) := if_pos hr
    have HR := hide (right_at a n cap xs true w h hg hr)
    have h1 := rightB_iff.1 hr
    have HC : Hid (∀ w', Keeps Non w w' → Calls Try.prog 55 #[.slice a n cap] w' fun e w2 => e = .returned (.int .i64 (cnt xs)) ∧ Keeps Non w' w2) := fun w' hk => count_l a n cap xs w' (h.non hk) h1.2 (by have := h.len; omega)
    clear h hg hr h1
    go_enter Try.func34, Try.ntmps34
    go_wp2_with fail
    refine HR.out.mono ?_
    rintro e w2 ⟨rfl, hk⟩
    go_wp2_with fail
    refine (HC.out w2 hk).mono ?_
    rintro e w3 ⟨rfl, hk3⟩
    go_wp2_with fail
    go_ret2
    exact ⟨by rw [HE.out]; rfl, hk.then hk3⟩
  · have HE : Hid (countR xs = (0, 60)) := if_neg hr
    have HR := hide (right_at a n cap xs false w h hg (rightB_not hr))
    clear h hg hr
    go_enter Try.func34, Try.ntmps34
    go_wp2_with fail
    refine HR.out.mono ?_
    rintro e w2 ⟨rfl, hk⟩
    go_wp2_with fail
    go_ret2
    exact ⟨by rw [HE.out]; rfl, hk⟩
/-- A slice of the call's own that reads xs. -/
def NewInts (w w' : World) (v : Value) (xs : List Int) : Prop := ∃ b, v = .slice (some ⟨b, 0, none⟩) xs.length xs.length ∧ w.heap.size ≤ b ∧ Blk w' b (xs.map (Value.int .i64)) 3 ∧ Keeps Non w w'
theorem ofInt_l (a : Option Addr) (n cap : Nat) (xs : List Int) (w : World) (h : Ints w a n xs) (hn : n ≤ 1024) (hg : Good xs) :
    Calls Try.prog 17 #[.slice a n cap] w fun e w' => ∃ v, e = .returned (.tuple #[v, .int .i64 0]) ∧ NewInts w w' v (numb [] xs) := by
  have HC := hide (numbered_int a n cap xs w h (by omega) hg)
  have e1 : ¬ 1024 < (n : Int) := by omega
  have HL : Hid ((numb [] xs).length = n) := by show _ = _; rw [numb_length, h.len]
  clear h hg
  go_enter Try.func17, Try.ntmps17
  go_wp2_with fail
  refine HC.out.mono ?_
  rintro e w2 ⟨b, rfl, hb, hB, hk⟩
  have HB := hide hB
  clear hB
  go_wp2_with fail
  go_ret2
  exact ⟨_, rfl, b, by rw [HL.out]; rfl, hb, HB.out, hk⟩
theorem ofInt_many (a : Option Addr) (n cap : Nat) (w : World) (hn : 1024 < n) :
    Calls Try.prog 17 #[.slice a n cap] w fun e w' => e = .returned (.tuple #[.slice none 0 0, .int .i64 5]) ∧ Keeps Non w w' := by
  have e1 : 1024 < (n : Int) := by omega
  clear hn
  go_enter Try.func17, Try.ntmps17
  go_wp2_with fail
  go_ret2
  exact ⟨rfl, Keeps.refl _ _⟩
theorem ofStr_many (a : Option Addr) (n cap : Nat) (w : World) (hn : 1024 < n) :
    Calls Try.prog 18 #[.slice a n cap] w fun e w' => e = .returned (.tuple #[.slice none 0 0, .int .i64 5]) ∧ Keeps Non w w' := by
  have e1 : 1024 < (n : Int) := by omega
  clear hn
  go_enter Try.func18, Try.ntmps18
  go_wp2_with fail
  go_ret2
  exact ⟨rfl, Keeps.refl _ _⟩
end Go.Proofs.Ytkcbahfmdokalaa
