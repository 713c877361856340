/-
  Walks over layer 34: Only, Go, Rounds. No condition.
-/
import Derived.Test.YtbgcglgbaekfeaaD
namespace Go.Proofs.Ytbgcglgbaekfeaa
open Go.RowKit
attribute [local go_sem] onto_cell onto_frozen
theorem chk_ok {xs : List Int} (h : chk xs = 0) : ∀ i, i < xs.length → 1 ≤ xs.getD i 0 ∧ xs.getD i 0 ≤ 1000 := by
  intro i hi
  unfold chk at h
  split at h
  · omega
  · split at h
    · rename_i h2
      rw [List.all_eq_true] at h2
      have := h2 _ (List.getElem_mem hi)
      rw [getD_at hi]
      simpa [okB] using this
    · omega
theorem ofI_lt {xs : List Int} (h : xs ≠ []) : ofI xs < xs.length := by
  have hp : 0 < xs.length := List.length_pos_iff.2 h
  rcases ofK_lt xs xs.length with h1 | h1
  · exact h1
  · unfold ofI; omega
theorem ofT_bd {xs : List Int} (h : chk xs = 0) (hx : xs ≠ []) : 1 ≤ ofT xs ∧ ofT xs ≤ 1000 := chk_ok h _ (ofI_lt hx)
/-- What Go answers. -/
def goR (xs : List Int) (at_ n : Int) : Int × Bool × Int :=
  if chk xs ≠ 0 then (0, false, chk xs) else if n < 0 ∨ at_ < 0 ∨ 1000 ≤ at_ then (0, false, 2) else if xs = [] then (n, false, 0)
  else if ofT xs ≤ at_ then (0, false, 341) else (if ofT xs - at_ < n then ofT xs - at_ else n, decide (ofT xs - at_ ≤ n), 0)
/-- What Rounds answers. -/
def roR (xs : List Int) (n : Int) : Int × Int × Int :=
  if chk xs ≠ 0 then (0, 0, chk xs) else if n < 0 then (0, 0, 2) else if xs = [] then (0, n, 0) else (n / ofT xs, n % ofT xs, 0)
def tupG (r : Int × Bool × Int) : Value := .tuple #[.int .i64 r.1, .bool r.2.1, .int .i64 r.2.2]
def tupR (r : Int × Int × Int) : Value := .tuple #[.int .i64 r.1, .int .i64 r.2.1, .int .i64 r.2.2]

set_option maxHeartbeats 2000000 in
theorem go_any (a : Option Addr) (n cap : Nat) (xs : List Int) (p q : Int) (w : World) (h : Ints w a n xs) :
    Calls Try.prog 19 #[.slice a n cap, .int .i64 p, .int .i64 q] w fun e w' => e = .returned (tupG (goR xs p q)) ∧ Keeps Non w w' := by
  have HO := hide (fun w' (k : Keeps Non w w') => of_any a n cap xs w' (h.non k))
  by_cases hc0 : chk xs = 0
  · have hc : (chk xs != 0) = false := by simp [hc0]
    by_cases hx : xs = []
    · subst hx
      rw [least_nil] at HO
      have K1 : ∀ W, Keeps Non w W → Keeps Non w (W.alloc (.cells #[.int .i64 (-1), .int .i64 0] 48)) := fun W h => h.alloc _
      by_cases h1 : q < 0
      · have hf : Hid (tupG (goR [] p q) = .tuple #[.int .i64 0, .bool false, .int .i64 2]) := by simp [Hid, tupG, goR, hc0, h1]
        rw [hf.out]
        clear hc0
        go_enter Try.func19, Try.ntmps19
        go_wp2_with (first | (go_at_call 29; refine (check_any _ _ _ [] _ h).mono ?_; rintro e w' ⟨rfl, rfl⟩) | (go_at_call 32; refine (HO.out _ (Keeps.refl _ _)).mono ?_; rintro e w1 ⟨rfl, hk1⟩))
        go_ret3
        exact ⟨rfl, hk1.alloc _⟩
      · by_cases h2 : p < 0
        · have hf : Hid (tupG (goR [] p q) = .tuple #[.int .i64 0, .bool false, .int .i64 2]) := by simp [Hid, tupG, goR, hc0, h2]
          rw [hf.out]
          clear hc0
          go_enter Try.func19, Try.ntmps19
          go_wp2_with (first | (go_at_call 29; refine (check_any _ _ _ [] _ h).mono ?_; rintro e w' ⟨rfl, rfl⟩) | (go_at_call 32; refine (HO.out _ (Keeps.refl _ _)).mono ?_; rintro e w1 ⟨rfl, hk1⟩))
          go_ret3
          exact ⟨rfl, hk1.alloc _⟩
        · by_cases h3 : 1000 ≤ p
          · have hf : Hid (tupG (goR [] p q) = .tuple #[.int .i64 0, .bool false, .int .i64 2]) := by simp [Hid, tupG, goR, hc0, h3]
            rw [hf.out]
            clear hc0
            go_enter Try.func19, Try.ntmps19
            go_wp2_with (first | (go_at_call 29; refine (check_any _ _ _ [] _ h).mono ?_; rintro e w' ⟨rfl, rfl⟩) | (go_at_call 32; refine (HO.out _ (Keeps.refl _ _)).mono ?_; rintro e w1 ⟨rfl, hk1⟩))
            go_ret3
            exact ⟨rfl, hk1.alloc _⟩
          · have hf : Hid (tupG (goR [] p q) = .tuple #[.int .i64 q, .bool false, .int .i64 0]) := by
              have : ¬ (q < 0 ∨ p < 0 ∨ 1000 ≤ p) := by omega
              simp [Hid, tupG, goR, hc0, this]
            rw [hf.out]
            clear hc0
            go_enter Try.func19, Try.ntmps19
            go_wp2_with (first | (go_at_call 29; refine (check_any _ _ _ [] _ h).mono ?_; rintro e w' ⟨rfl, rfl⟩) | (go_at_call 32; refine (HO.out _ (Keeps.refl _ _)).mono ?_; rintro e w1 ⟨rfl, hk1⟩) | (go_at_call 33; refine (there_any _ _ _).mono ?_; rintro e w2 ⟨rfl, hk2⟩))
            go_ret3
            exact ⟨rfl, (hk1.alloc _).then hk2⟩
    · have hbd := ofT_bd hc0 hx
      rw [least_some hx] at HO
      have hg1 : q < 0 ∨ p < 0 ∨ 1000 ≤ p → tupG (goR xs p q) = .tuple #[.int .i64 0, .bool false, .int .i64 2] := fun h => by simp [tupG, goR, hc0, h]
      have hg2 : ¬ (q < 0 ∨ p < 0 ∨ 1000 ≤ p) → ofT xs ≤ p → tupG (goR xs p q) = .tuple #[.int .i64 0, .bool false, .int .i64 341] := fun h h' => by simp [tupG, goR, hc0, h, hx, h']
      have hg3 : ¬ (q < 0 ∨ p < 0 ∨ 1000 ≤ p) → ¬ ofT xs ≤ p → tupG (goR xs p q) = .tuple #[.int .i64 (if ofT xs - p < q then ofT xs - p else q), .bool (decide (ofT xs - p ≤ q)), .int .i64 0] := fun h h' => by simp [tupG, goR, hc0, h, hx, h']
      obtain ⟨t, ht⟩ : ∃ t, ofT xs = t := ⟨_, rfl⟩
      obtain ⟨i, hi⟩ : ∃ t, ofI xs = t := ⟨_, rfl⟩
      rw [hi, ht] at HO
      rw [ht] at hbd hg2 hg3
      obtain ⟨hb1, hb2⟩ := hbd
      have z : (0 : Int) ≤ (i : Int) := by omega
      have G1 := hide hg1
      have G2 := hide hg2
      have G3 := hide hg3
      clear hi ht hx hg1 hg2 hg3 hc0
      by_cases h1 : q < 0
      · rw [G1.out (by omega)]
        go_enter Try.func19, Try.ntmps19
        go_wp2_with (first | (go_at_call 29; refine (check_any _ _ _ xs _ h).mono ?_; rintro e w' ⟨rfl, rfl⟩) | (go_at_call 32; refine (HO.out _ (Keeps.refl _ _)).mono ?_; rintro e w1 ⟨rfl, hk1⟩))
        go_ret3
        exact ⟨rfl, hk1.alloc _⟩
      · by_cases h2 : p < 0
        · rw [G1.out (by omega)]
          go_enter Try.func19, Try.ntmps19
          go_wp2_with (first | (go_at_call 29; refine (check_any _ _ _ xs _ h).mono ?_; rintro e w' ⟨rfl, rfl⟩) | (go_at_call 32; refine (HO.out _ (Keeps.refl _ _)).mono ?_; rintro e w1 ⟨rfl, hk1⟩))
          go_ret3
          exact ⟨rfl, hk1.alloc _⟩
        · by_cases h3 : 1000 ≤ p
          · rw [G1.out (by omega)]
            go_enter Try.func19, Try.ntmps19
            go_wp2_with (first | (go_at_call 29; refine (check_any _ _ _ xs _ h).mono ?_; rintro e w' ⟨rfl, rfl⟩) | (go_at_call 32; refine (HO.out _ (Keeps.refl _ _)).mono ?_; rintro e w1 ⟨rfl, hk1⟩))
            go_ret3
            exact ⟨rfl, hk1.alloc _⟩
          · by_cases h4 : t ≤ p
            · rw [G2.out (by omega) h4]
              go_enter Try.func19, Try.ntmps19
              go_wp2_with (first | (go_at_call 29; refine (check_any _ _ _ xs _ h).mono ?_; rintro e w' ⟨rfl, rfl⟩) | (go_at_call 32; refine (HO.out _ (Keeps.refl _ _)).mono ?_; rintro e w1 ⟨rfl, hk1⟩; have C1 := (Blk.new w1 [.int .i64 i, .int .i64 t] 48)) | (go_at_call 33; refine (there_any _ _ _).mono ?_; rintro e w2 ⟨rfl, hk2⟩; have C2 := (C1.keeps hk2 (fun x => x)).cell 1; simp only [List.getElem?_cons_zero, List.getElem?_cons_succ] at C2; have L2 := (C1.keeps hk2 (fun x => x)).lt))
              go_ret3
              exact ⟨rfl, (hk1.alloc _).then hk2⟩
            · rw [G3.out (by omega) h4]
              go_enter Try.func19, Try.ntmps19
              go_wp2_with (first | (go_at_call 29; refine (check_any _ _ _ xs _ h).mono ?_; rintro e w' ⟨rfl, rfl⟩) | (go_at_call 32; refine (HO.out _ (Keeps.refl _ _)).mono ?_; rintro e w1 ⟨rfl, hk1⟩; have C1 := (Blk.new w1 [.int .i64 i, .int .i64 t] 48)) | (go_at_call 33; refine (there_any _ _ _).mono ?_; rintro e w2 ⟨rfl, hk2⟩; have C2 := (C1.keeps hk2 (fun x => x)).cell 1; simp only [List.getElem?_cons_zero, List.getElem?_cons_succ] at C2; have L2 := (C1.keeps hk2 (fun x => x)).lt))
              all_goals
                go_ret3
                exact ⟨rfl, (hk1.alloc _).then hk2⟩
  · have hc : (chk xs != 0) = true := by simp [hc0]
    have hf : Hid (tupG (goR xs p q) = .tuple #[.int .i64 0, .bool false, .int .i64 (chk xs)]) := by simp [Hid, tupG, goR, hc0]
    rw [hf.out]
    clear hc0
    go_enter Try.func19, Try.ntmps19
    go_wp2_with (go_at_call 29; refine (check_any _ _ _ xs _ h).mono ?_; rintro e w' ⟨rfl, rfl⟩)
    go_ret3
    exact ⟨rfl, Keeps.refl _ _⟩

set_option maxHeartbeats 2000000 in
theorem rounds_any (a : Option Addr) (n cap : Nat) (xs : List Int) (q : Int) (w : World) (h : Ints w a n xs) (hq : q ≤ 9223372036854775807) :
    Calls Try.prog 20 #[.slice a n cap, .int .i64 q] w fun e w' => e = .returned (tupR (roR xs q)) ∧ Keeps Non w w' := by
  have HO := hide (fun w' (k : Keeps Non w w') => of_any a n cap xs w' (h.non k))
  by_cases hc0 : chk xs = 0
  · have hc : (chk xs != 0) = false := by simp [hc0]
    by_cases hx : xs = []
    · subst hx
      rw [least_nil] at HO
      by_cases h1 : q < 0
      · have hf : Hid (tupR (roR [] q) = .tuple #[.int .i64 0, .int .i64 0, .int .i64 2]) := by simp [Hid, tupR, roR, hc0, h1]
        rw [hf.out]
        clear hc0 hq
        go_enter Try.func20, Try.ntmps20
        go_wp2_with (first | (go_at_call 29; refine (check_any _ _ _ [] _ h).mono ?_; rintro e w' ⟨rfl, rfl⟩) | (go_at_call 32; refine (HO.out _ (Keeps.refl _ _)).mono ?_; rintro e w1 ⟨rfl, hk1⟩))
        go_ret3
        exact ⟨rfl, hk1.alloc _⟩
      · have hf : Hid (tupR (roR [] q) = .tuple #[.int .i64 0, .int .i64 q, .int .i64 0]) := by simp [Hid, tupR, roR, hc0, h1]
        rw [hf.out]
        clear hc0 hq
        go_enter Try.func20, Try.ntmps20
        go_wp2_with (first | (go_at_call 29; refine (check_any _ _ _ [] _ h).mono ?_; rintro e w' ⟨rfl, rfl⟩) | (go_at_call 32; refine (HO.out _ (Keeps.refl _ _)).mono ?_; rintro e w1 ⟨rfl, hk1⟩) | (go_at_call 33; refine (there_any _ _ _).mono ?_; rintro e w2 ⟨rfl, hk2⟩))
        go_ret3
        exact ⟨rfl, (hk1.alloc _).then hk2⟩
    · have hbd := ofT_bd hc0 hx
      rw [least_some hx] at HO
      have hg1 : q < 0 → tupR (roR xs q) = .tuple #[.int .i64 0, .int .i64 0, .int .i64 2] := fun h => by simp [tupR, roR, hc0, h]
      have hg2 : ¬ q < 0 → tupR (roR xs q) = .tuple #[.int .i64 (q / ofT xs), .int .i64 (q % ofT xs), .int .i64 0] := fun h => by simp [tupR, roR, hc0, h, hx]
      obtain ⟨t, ht⟩ : ∃ t, ofT xs = t := ⟨_, rfl⟩
      obtain ⟨i, hi⟩ : ∃ t, ofI xs = t := ⟨_, rfl⟩
      rw [hi, ht] at HO
      rw [ht] at hbd hg2
      obtain ⟨hb1, hb2⟩ := hbd
      have z : (0 : Int) ≤ (i : Int) := by omega
      have G1 := hide hg1
      have G2 := hide hg2
      clear hi ht hx hg1 hg2 hc0
      by_cases h1 : q < 0
      · rw [G1.out h1]
        clear hq
        go_enter Try.func20, Try.ntmps20
        go_wp2_with (first | (go_at_call 29; refine (check_any _ _ _ xs _ h).mono ?_; rintro e w' ⟨rfl, rfl⟩) | (go_at_call 32; refine (HO.out _ (Keeps.refl _ _)).mono ?_; rintro e w1 ⟨rfl, hk1⟩))
        go_ret3
        exact ⟨rfl, hk1.alloc _⟩
      · rw [G2.out h1]
        go_enter Try.func20, Try.ntmps20
        go_wp2_with (first | (go_at_call 29; refine (check_any _ _ _ xs _ h).mono ?_; rintro e w' ⟨rfl, rfl⟩) | (go_at_call 32; refine (HO.out _ (Keeps.refl _ _)).mono ?_; rintro e w1 ⟨rfl, hk1⟩; have C1 := (Blk.new w1 [.int .i64 i, .int .i64 t] 48)) | (go_at_call 33; refine (there_any _ _ _).mono ?_; rintro e w2 ⟨rfl, hk2⟩; have C2 := (C1.keeps hk2 (fun x => x)).cell 1; simp only [List.getElem?_cons_zero, List.getElem?_cons_succ] at C2; have L2 := (C1.keeps hk2 (fun x => x)).lt))
        refine wp_region_onto (by kernel_rfl) (by kernel_rfl) ?_
        repeat (go_big_quiet_step (fail))
        refine wpQuiet_nil ?_
        rintro _ ⟨u, rfl⟩
        go_wp2
        go_ret3
        exact ⟨rfl, ((hk1.alloc _).then hk2).then (onto_keeps w2 u)⟩
  · have hc : (chk xs != 0) = true := by simp [hc0]
    have hf : Hid (tupR (roR xs q) = .tuple #[.int .i64 0, .int .i64 0, .int .i64 (chk xs)]) := by simp [Hid, tupR, roR, hc0]
    rw [hf.out]
    clear hc0 hq
    go_enter Try.func20, Try.ntmps20
    go_wp2_with (go_at_call 29; refine (check_any _ _ _ xs _ h).mono ?_; rintro e w' ⟨rfl, rfl⟩)
    go_ret3
    exact ⟨rfl, Keeps.refl _ _⟩
end Go.Proofs.Ytbgcglgbaekfeaa
