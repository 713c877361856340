/-
  Right, Count, Of, slices of slices, IndexFunc, ContainsFunc, Clone. No condition.
-/
import Derived.Test.YthpdflpkkiabhaaB
import Derived.Test.YthpdflpkkiabhaaG
import Derived.Laws.EntriesVeiled
import Derived.WalkMore
namespace Go.Proofs.Ythpdflpkkiabhaa
open Go.RowKit
attribute [local go_sem] onto_cell onto_frozen
set_option linter.unusedVariables false
/-
  Walks over layer 6: both, count, Of. No condition.
-/
theorem right_at (a : Option Addr) (n cap : Nat) (xs : List Int) (v : Bool) (w : World) (h : Ints w a n xs) (hwf : ∀ x ∈ xs, (Lit.int .i64 x).wf = true) (hv : rightB xs = v) :
    Calls Try.prog 45 #[.slice a n cap] w fun e w' => e = .returned (.bool v) ∧ Keeps Non w w' := by
  subst hv
  exact right_l a n cap xs w h hwf
/-
  Walks over layer 6: count, Count, Of over integers, Meet. No condition.
-/
/-- Numbers that fit. -/
def Good (xs : List Int) : Prop := ∀ x ∈ xs, (Lit.int .i64 x).wf = true
theorem wf_of {x : Int} (h1 : -9223372036854775808 ≤ x) (h2 : x ≤ 9223372036854775807) : (Lit.int .i64 x).wf = true := by
  simp only [Lit.wf, Bool.and_eq_true, decide_eq_true_eq]
  exact ⟨h1, h2⟩
theorem of_wf {x : Int} (h : (Lit.int .i64 x).wf = true) : -9223372036854775808 ≤ x ∧ x ≤ 9223372036854775807 := by
  simp only [Lit.wf, Bool.and_eq_true, decide_eq_true_eq] at h
  exact h
theorem good_numb {α : Type} [BEq α] [LawfulBEq α] [DecidableEq α] (K : List α) (h : K.length ≤ 17592186044416) : Good (numb [] K) := fun x hx => by
  have h1 := numb_bound K x hx
  have h2 := firsts_length_le K []
  simp only [List.length_nil] at h2
  exact wf_of (by omega) (by omega)
theorem isP_good {p : List Int} (hp : IsP p) (h : p.length ≤ 17592186044416) : Good p := by
  rw [← hp]
  exact good_numb p h
theorem foldl_max_ge : ∀ (l : List Int) (a : Int), a ≤ l.foldl max a ∧ ∀ x ∈ l, x ≤ l.foldl max a
  | [], a => ⟨Int.le_refl _, by simp⟩
  | y :: r, a => by
    obtain ⟨h1, h2⟩ := foldl_max_ge r (max a y)
    refine ⟨by simp only [List.foldl_cons]; omega, fun x hx => ?_⟩
    simp only [List.foldl_cons]
    rcases List.mem_cons.1 hx with rfl | h
    · omega
    · exact h2 x h
theorem foldl_max_mem : ∀ (l : List Int) (a : Int), l.foldl max a = a ∨ l.foldl max a ∈ l
  | [], a => .inl rfl
  | y :: r, a => by
    simp only [List.foldl_cons]
    rcases foldl_max_mem r (max a y) with h | h
    · rw [h]
      rcases Int.le_total a y with h2 | h2
      · exact .inr (by rw [Int.max_eq_right h2]; simp)
      · exact .inl (Int.max_eq_left h2)
    · exact .inr (by simp [h])
theorem cnt_max {p : List Int} (hp : IsP p) (h0 : 0 < p.length) : Lib.maxOf p + 1 = (cnt p : Int) := by
  have hb : ∀ x ∈ p, 0 ≤ x ∧ x < cnt p := by
    intro x hx
    have := numb_bound p x (by rw [hp]; exact hx)
    exact this
  obtain ⟨h1, h2⟩ := foldl_max_ge p (p.headD 0)
  have h3 := foldl_max_mem p (p.headD 0)
  have hm : Lib.maxOf p ∈ p := by
    unfold Lib.maxOf
    rcases h3 with h | h
    · rw [h]
      cases p with
      | nil => simp at h0
      | cons a r => simp
    · exact h
  have h4 := hb _ hm
  have hc : 0 < cnt p := by omega
  have h5 := numb_onto p (cnt p - 1) (by unfold cnt at *; omega)
  rw [hp] at h5
  have h6 := h2 _ h5
  unfold Lib.maxOf at *
  omega
theorem isP_nil_cnt {p : List Int} (h : p.length = 0) : cnt p = 0 := by
  have := cnt_le_length p
  omega
theorem count_l (a : Option Addr) (n cap : Nat) (xs : List Int) (w : World) (h : Ints w a n xs) (hp : IsP xs) (hn : n ≤ 1024) :
    Calls Try.prog 46 #[.slice a n cap] w fun e w' => e = .returned (.int .i64 (cnt xs)) ∧ Keeps Non w w' := by
  have hl := h.len
  by_cases h0 : n = 0
  · subst h0
    have HC : Hid (cnt xs = 0) := isP_nil_cnt hl
    clear h hp hl
    go_enter Try.func46, Try.ntmps46
    go_wp2_with fail
    go_ret
    exact ⟨by rw [HC.out]; rfl, Keeps.refl _ _⟩
  · obtain ⟨b, off, rfl, hb, hc⟩ := h.at (by omega)
    have hm := cnt_max hp (by omega)
    have hcl := cnt_le_length xs
    have HM := hide hm
    have HC := hide (Try.slices_Max_int b off n cap xs w (by omega) (by omega) (by omega) (fun j hj => hc j (by omega)))
    rw [← hl, List.take_length, hl] at HC
    obtain ⟨m, hmm⟩ : ∃ m, Lib.maxOf xs = m := ⟨_, rfl⟩
    rw [hmm] at HC HM
    have y1 : -1 ≤ m := by have := HM.out; omega
    have y2 : m ≤ 1024 := by have := HM.out; omega
    have y3 : ¬ (n : Int) = 0 := by omega
    clear hmm hm h hp hl hc hcl
    go_enter Try.func46, Try.ntmps46
    go_wp2_with fail
    refine HC.out.mono ?_
    rintro e w2 ⟨rfl, rfl⟩
    go_wp2_with fail
    go_ret
    exact ⟨by rw [← HM.out]; rfl, Keeps.refl _ _⟩
theorem rightB_iff {xs : List Int} : rightB xs = true ↔ xs.length ≤ 1024 ∧ IsP xs := by
  unfold rightB IsP
  simp
theorem rightB_not {xs : List Int} (h : ¬ rightB xs = true) : rightB xs = false := by
  cases hb : rightB xs with
  | false => rfl
  | true => exact absurd hb h
/-- Count's answer. -/
def countR (xs : List Int) : Int × Int := if rightB xs = true then (cnt xs, 0) else (0, 60)
theorem countE_l (a : Option Addr) (n cap : Nat) (xs : List Int) (w : World) (h : Ints w a n xs) (hg : Good xs) :
    Calls Try.prog 16 #[.slice a n cap] w fun e w' => e = .returned (.tuple #[.int .i64 (countR xs).1, .int .i64 (countR xs).2]) ∧ Keeps Non w w' := by
  by_cases hr : rightB xs = true
  · have HE : Hid (countR xs = ((cnt xs : Int), 0)) := if_pos hr
    have HR := hide (right_at a n cap xs true w h hg hr)
    have h1 := rightB_iff.1 hr
    have HC : Hid (∀ w', Keeps Non w w' → Calls Try.prog 46 #[.slice a n cap] w' fun e w2 => e = .returned (.int .i64 (cnt xs)) ∧ Keeps Non w' w2) := fun w' hk => count_l a n cap xs w' (h.non hk) h1.2 (by have := h.len; omega)
    clear h hg hr h1
    go_enter Try.func16, Try.ntmps16
    go_wp2_with fail
    refine HR.out.mono ?_
    rintro e w2 ⟨rfl, hk⟩
    go_wp2_with fail
    refine (HC.out w2 hk).mono ?_
    rintro e w3 ⟨rfl, hk3⟩
    go_wp2_with fail
    go_ret2
    exact ⟨by rw [HE.out]; rfl, hk.then hk3⟩
  · have HE : Hid (countR xs = (0, 60)) := if_neg hr
    have HR := hide (right_at a n cap xs false w h hg (rightB_not hr))
    clear h hg hr
    go_enter Try.func16, Try.ntmps16
    go_wp2_with fail
    refine HR.out.mono ?_
    rintro e w2 ⟨rfl, hk⟩
    go_wp2_with fail
    go_ret2
    exact ⟨by rw [HE.out]; rfl, hk⟩
/-- A slice of the call's own that reads xs. -/
def NewInts (w w' : World) (v : Value) (xs : List Int) : Prop := ∃ b, v = .slice (some ⟨b, 0, none⟩) xs.length xs.length ∧ w.heap.size ≤ b ∧ Blk w' b (xs.map (Value.int .i64)) 3 ∧ Keeps Non w w'
theorem ofInt_l (a : Option Addr) (n cap : Nat) (xs : List Int) (w : World) (h : Ints w a n xs) (hn : n ≤ 1024) (hg : Good xs) :
    Calls Try.prog 43 #[.slice a n cap] w fun e w' => ∃ v, e = .returned (.tuple #[v, .int .i64 0]) ∧ NewInts w w' v (numb [] xs) := by
  have HC := hide (numbered_int a n cap xs w h (by omega) hg)
  have e1 : ¬ 1024 < (n : Int) := by omega
  have HL : Hid ((numb [] xs).length = n) := by show _ = _; rw [numb_length, h.len]
  clear h hg
  go_enter Try.func43, Try.ntmps43
  go_wp2_with fail
  refine HC.out.mono ?_
  rintro e w2 ⟨b, rfl, hb, hB, hk⟩
  have HB := hide hB
  clear hB
  go_wp2_with fail
  go_ret2
  exact ⟨_, rfl, b, by rw [HL.out]; rfl, hb, HB.out, hk⟩
theorem ofInt_many (a : Option Addr) (n cap : Nat) (w : World) (hn : 1024 < n) :
    Calls Try.prog 43 #[.slice a n cap] w fun e w' => e = .returned (.tuple #[.slice none 0 0, .int .i64 5]) ∧ Keeps Non w w' := by
  have e1 : 1024 < (n : Int) := by omega
  clear hn
  go_enter Try.func43, Try.ntmps43
  go_wp2_with fail
  go_ret2
  exact ⟨rfl, Keeps.refl _ _⟩
/-
  Walks over layer 6: refine. No condition.
-/
/-- Lists of numbers at a, n of them. -/
structure Rows (w : World) (a : Option Addr) (n : Nat) (xss : List (List Int)) : Prop where
  len : xss.length = n
  big : n ≤ 17592186044416
  cell : n = 0 ∨ ∃ b off, a = some ⟨b, off, none⟩ ∧ b < w.heap.size ∧ ∀ i, i < n → ∃ ai ci, w.cell? ⟨b, off + i, none⟩ = some (.slice ai (xss.getD i []).length ci) ∧ Ints w ai (xss.getD i []).length (xss.getD i [])
theorem Rows.at {w : World} {a : Option Addr} {n : Nat} {xss : List (List Int)} (h : Rows w a n xss) (hn : 0 < n) : ∃ b off, a = some ⟨b, off, none⟩ ∧ b < w.heap.size ∧ ∀ i, i < n → ∃ ai ci, w.cell? ⟨b, off + i, none⟩ = some (.slice ai (xss.getD i []).length ci) ∧ Ints w ai (xss.getD i []).length (xss.getD i []) :=
  h.cell.resolve_left (by omega)
theorem Rows.non {w w' : World} {a : Option Addr} {n : Nat} {xss : List (List Int)} (h : Rows w a n xss) (k : Keeps Non w w') : Rows w' a n xss :=
  ⟨h.len, h.big, h.cell.imp id fun ⟨b, off, ha, hb, hc⟩ => ⟨b, off, ha, Nat.lt_of_lt_of_le hb k.size, fun i hi => by
    obtain ⟨ai, ci, h1, h2⟩ := hc i hi
    exact ⟨ai, ci, (k.cell (p := ⟨b, off + i, none⟩) hb (fun x => x)).trans h1, h2.non k⟩⟩⟩
theorem getD_mem {α : Type} {xs : List α} {d : α} {i : Nat} (h : i < xs.length) : xs.getD i d ∈ xs := by
  rw [getD_numL h]
  exact List.getElem_mem h
theorem good_at {xs : List Int} (h : Good xs) (i : Nat) : (Lit.int .i64 (xs.getD i 0)).wf = true := by
  by_cases hi : i < xs.length
  · exact h _ (getD_mem hi)
  · rw [List.getD_eq_getElem?_getD, List.getElem?_eq_none (by omega)]
    decide
/-
  Walks over layer 6: IndexFunc, ContainsFunc, wrong. No condition.
-/
theorem any_take_succ {α : Type} (f : α → Bool) (xs : List α) (k : Nat) (d : α) (h : k < xs.length) : (xs.take (k + 1)).any f = ((xs.take k).any f || f (xs.getD k d)) := by
  rw [List.take_succ_eq_append_getElem h, List.any_append, getD_numL h]
  simp
theorem any_of_at {α : Type} (f : α → Bool) (xs : List α) (k : Nat) (d : α) (h : k < xs.length) (hf : f (xs.getD k d) = true) : xs.any f = true := by
  rw [List.any_eq_true]
  exact ⟨_, getD_mem h, hf⟩
/-- A function with a body of its own. -/
def Ent (F : FuncId) : Prop := ∀ args w, (callFunc F args).run Try.prog w = .ok (.enter F args) w
/-- What IndexFunc says: where, or -1. -/
def IdxP (t : Bool) (w : World) (e : Ending) (w' : World) : Prop := ∃ r : Int, e = .returned (.int .i64 r) ∧ (t = true → 0 ≤ r) ∧ (t = false → r = -1) ∧ Keeps Non w w'
set_option maxHeartbeats 1000000 in
theorem index_int (a : Option Addr) (n cap : Nat) (xs : List Int) (F : FuncId) (C : Value) (f : Int → Bool) (w : World) (he : Ent F) (h : Ints w a n xs)
    (hF : ∀ x w', Keeps Non w w' → Calls Try.prog F #[.int .i64 x, C] w' fun e w2 => e = .returned (.bool (f x)) ∧ Keeps Non w' w2) :
    Calls Try.prog 51 #[.slice a n cap, .func (.func F) #[] #[C]] w (IdxP (xs.any f) w) := by
  have hn := h.big
  have HX := hide h
  have HF := hide hF
  have HEn := hide he
  clear h hF he
  go_enter Try.func51, Try.ntmps51
  go_wp2_with fail
  obtain ⟨W, hW, hWk⟩ : ∃ W, w = W ∧ Keeps Non w W := ⟨w, rfl, Keeps.refl _ _⟩
  go_loopw [8] (fun i wr => ∃ k : Nat, k ≤ n ∧ i = .int .i64 k ∧ Hid (Keeps Non w wr) ∧ Hid ((xs.take k).any f = false)) (fun i _ => n - (intOf i).toNat)
  case atStart => exact ⟨0, Nat.zero_le _, rfl, Keeps.refl _ _, rfl⟩
  case round =>
    clear hW hWk
    obtain ⟨k, hk, rfl, HK, HA⟩ := hrel
    have hxl : xs.length = n := HX.out.len
    by_cases hlt : k < n
    · obtain ⟨b1, o1, rfl, hb1, hc1⟩ := (HX.out.non HK.out).at (by omega)
      have ck := hc1 k hlt
      have hts := any_take_succ f xs k 0 (by omega)
      have hat := any_of_at f xs k 0 (by omega)
      obtain ⟨x, hx⟩ : ∃ x, xs.getD k 0 = x := ⟨_, rfl⟩
      rw [hx] at ck hts hat
      rw [HA.out] at hts
      have HC := hide (HF.out x wr HK.out)
      obtain ⟨v, hv⟩ : ∃ v, f x = v := ⟨_, rfl⟩
      rw [hv] at HC hts hat
      have z0 : (0 : Int) ≤ (k : Int) := by omega
      have z1 : (k : Int) < (n : Int) := by omega
      clear hc1 hx hv hxl
      cases v with
      | true =>
        have HT := hide (hat rfl)
        clear hat hts
        go_wp2_with fail
        rw [HEn.out]
        refine HC.out.mono ?_
        rintro e w2 ⟨rfl, hk2⟩
        have HK2 := hide (HK.out.then hk2)
        clear hk2
        go_wp2_with fail
        try rw [Exit.noGoto_ret]
        go_ret
        exact ⟨_, rfl, fun _ => by omega, (fun h => by rw [HT.out] at h; cases h), HK2.out⟩
      | false =>
        have HT : Hid ((xs.take (k + 1)).any f = false) := hts
        clear hat hts
        go_wp2_with fail
        rw [HEn.out]
        refine HC.out.mono ?_
        rintro e w2 ⟨rfl, hk2⟩
        have HK2 := hide (HK.out.then hk2)
        clear hk2
        go_wp2_with fail
        go_roundw
        case rel => exact ⟨k + 1, by omega, by go_num, HK2.out, HT.out⟩
        case measure => simp [intOf]; omega
    · have hkn : k = n := by omega
      subst hkn
      have HT : Hid (xs.any f = false) := by
        show _ = _
        rw [← HA.out, List.take_of_length_le (by omega)]
      have y9 : ¬ (k : Int) < (k : Int) := by omega
      clear hxl
      go_wp2_with fail
      try rw [Exit.noGoto_ret]
      go_ret
      exact ⟨_, rfl, (fun h => by rw [HT.out] at h; cases h), fun _ => rfl, HK.out⟩
theorem contains_int (a : Option Addr) (n cap : Nat) (xs : List Int) (F : FuncId) (C : Value) (f : Int → Bool) (w : World) (he : Ent F) (h : Ints w a n xs)
    (hF : ∀ x w', Keeps Non w w' → Calls Try.prog F #[.int .i64 x, C] w' fun e w2 => e = .returned (.bool (f x)) ∧ Keeps Non w' w2) :
    Calls Try.prog 29 #[.slice a n cap, .func (.func F) #[] #[C]] w fun e w' => e = .returned (.bool (xs.any f)) ∧ Keeps Non w w' := by
  have HC := hide (index_int a n cap xs F C f w he h hF)
  obtain ⟨v, hv⟩ : ∃ v, xs.any f = v := ⟨_, rfl⟩
  rw [hv] at HC ⊢
  clear h hF hv
  go_enter Try.func29, Try.ntmps29
  go_wp2_with fail
  refine HC.out.mono ?_
  rintro e w2 ⟨r, rfl, h1, h2, hk⟩
  have HK := hide hk
  clear hk
  cases v with
  | true =>
    have y0 : 0 ≤ r := h1 rfl
    clear h1 h2
    go_wp2_with fail
    go_ret
    exact ⟨ret_bool (by simp), HK.out⟩
  | false =>
    obtain rfl : r = -1 := h2 rfl
    clear h1 h2
    go_wp2_with fail
    go_ret
    exact ⟨rfl, HK.out⟩
theorem ent_of {f : FuncId} {fn : Func} {c : Code} (hf : Try.prog.funcs[f]? = some fn) (hn : fn.name ≠ "runtime.NumGoroutine") (hb : fn.body = some c) : Ent f := fun args w => by simp [callFunc, hf, hn, hb]
/-- A slice that reads xs, whosever it is. -/
def GotInts (w w' : World) (v : Value) (xs : List Int) : Prop := ∃ a cap, v = .slice a xs.length cap ∧ Ints w' a xs.length xs ∧ Keeps Non w w'
theorem clone_l (a : Option Addr) (n cap : Nat) (xs : List Int) (w : World) (h : Ints w a n xs) (hn : n ≤ 1000000) :
    Calls Try.prog 40 #[.slice a n cap] w fun e w' => ∃ v, e = .returned v ∧ GotInts w w' v xs := by
  obtain rfl := h.len
  cases a with
  | none =>
    have h0 : xs.length = 0 := by
      rcases h.cell with h1 | ⟨b, off, h1, _⟩
      · exact h1
      · cases h1
    refine (Try.slices_Clone_int_nil xs.length cap w).mono ?_
    rintro e w' ⟨rfl, rfl⟩
    have hx : xs = [] := List.eq_nil_of_length_eq_zero h0
    subst hx
    exact ⟨_, rfl, none, 0, rfl, Ints.nil _ _, Keeps.refl _ _⟩
  | some ad =>
    by_cases h0 : xs.length = 0
    · have hx : xs = [] := List.eq_nil_of_length_eq_zero h0
      subst hx
      refine (Try.slices_Clone_int_zero ad cap w).mono ?_
      rintro e w' ⟨v, rfl, ho, _, hb⟩
      obtain ⟨a2, c2, rfl, hI⟩ := ints_of_owns (xs := []) ho (by omega)
      exact ⟨_, rfl, a2, c2, rfl, hI, Keeps.of_below Non hb⟩
    · obtain ⟨b, off, hab, hb, hc⟩ := h.at (by omega)
      cases hab
      refine (Try.slices_Clone_int b off xs.length cap xs w (Nat.le_refl _) (by omega) (fun j hj => hc j hj)).mono ?_
      rintro e w' ⟨v, rfl, ho, _, hbl⟩
      rw [List.take_length] at ho
      obtain ⟨a2, c2, rfl, hI⟩ := ints_of_owns ho (by omega)
      exact ⟨_, rfl, a2, c2, rfl, hI, Keeps.of_below Non hbl⟩
/-
  Walks over layer 6's statements: awake. No condition.
-/
theorem NewInts.got {w w' : World} {v : Value} {xs : List Int} (h : NewInts w w' v xs) (hb : xs.length ≤ 17592186044416) : GotInts w w' v xs := by
  obtain ⟨b, h1, h2, h3, h4⟩ := h
  exact ⟨_, _, h1, ints_of_blk h3 hb, h4⟩
/-- Numbers that were just laid down. -/
theorem ints_laid (w : World) {n : Nat} (xs : List Int) (hn : n = w.heap.size) (hb : xs.length ≤ 17592186044416) : Ints (w.alloc (.cells (xs.map (Value.int .i64)).toArray 3)) (some ⟨n, 0, none⟩) xs.length xs :=
  ints_of_blk (Blk.newAt w (xs.map (Value.int .i64)) 3 hn) hb
theorem good_small {xs : List Int} (h : ∀ x ∈ xs, 0 ≤ x ∧ x ≤ 1000) : Good xs := fun x hx => wf_of (by have := h x hx; omega) (by have := h x hx; omega)
theorem rows_one {w : World} {B : Nat} {S : List Value} {xss : List (List Int)} (hB : Blk w B S 25) (hl : S.length = xss.length) (hb : xss.length ≤ 17592186044416) (h : ∀ i, i < xss.length → ∃ ai ci, S[i]? = some (.slice ai (xss.getD i []).length ci) ∧ Ints w ai (xss.getD i []).length (xss.getD i [])) : Rows w (some ⟨B, 0, none⟩) xss.length xss :=
  ⟨rfl, hb, .inr ⟨B, 0, rfl, hB.lt, fun i hi => by
    obtain ⟨ai, ci, h1, h2⟩ := h i hi
    refine ⟨ai, ci, ?_, h2⟩
    rw [hB.cell, Nat.zero_add]
    exact h1⟩⟩
end Go.Proofs.Ythpdflpkkiabhaa
