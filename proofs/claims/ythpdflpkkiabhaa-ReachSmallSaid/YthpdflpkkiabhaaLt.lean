/-
  ReachSmall's own lists, laid. No condition. A ring of 1024 points; the long line as it is laid. No condition. ReachSmall: the walk. No condition.
-/
import Derived.Test.YthpdflpkkiabhaaXk
import Derived.Test.YthpdflpkkiabhaaXg
import Derived.Test.YthpdflpkkiabhaaLw
import Derived.Test.YthpdflpkkiabhaaPw
import Derived.Test.YthpdflpkkiabhaaBb
namespace Go.Proofs.Ythpdflpkkiabhaa
section
open Go.RowKit
set_option linter.unusedVariables false
/-- Three lists: of one, of two, none. -/
def lay3 (x : World) (l1 l2 : List Int) : World := ((x.alloc (.cells (l1.map (Value.int .i64)).toArray 3)).alloc (.cells (l2.map (Value.int .i64)).toArray 3)).alloc (.cells #[.slice (some ⟨x.heap.size, 0, none⟩) l1.length l1.length, .slice (some ⟨x.heap.size + 1, 0, none⟩) l2.length l2.length, .slice none 0 0] 25)
theorem lay3_keeps (x : World) (l1 l2 : List Int) : Keeps Non x (lay3 x l1 l2) := (((Keeps.refl Non x).alloc _).alloc _).alloc _
theorem lay3_size (x : World) (l1 l2 : List Int) : (lay3 x l1 l2).heap.size = x.heap.size + 1 + 1 + 1 := by
  unfold lay3
  rw [World.size_alloc, World.size_alloc, World.size_alloc]
theorem lay3_blk (x : World) (l1 l2 : List Int) : Blk (lay3 x l1 l2) (x.heap.size + 1 + 1) [.slice (some ⟨x.heap.size, 0, none⟩) l1.length l1.length, .slice (some ⟨x.heap.size + 1, 0, none⟩) l2.length l2.length, .slice none 0 0] 25 :=
  Blk.newAt _ [.slice (some ⟨x.heap.size, 0, none⟩) l1.length l1.length, .slice (some ⟨x.heap.size + 1, 0, none⟩) l2.length l2.length, .slice none 0 0] 25 (by rw [World.size_alloc, World.size_alloc])
theorem lay3_one (x : World) (l1 l2 : List Int) : Blk (lay3 x l1 l2) x.heap.size (l1.map (Value.int .i64)) 3 :=
  ((Blk.newAt x (l1.map (Value.int .i64)) 3 rfl).keeps ((Keeps.refl Non _).alloc _) (fun x => x)).keeps ((Keeps.refl Non _).alloc _) (fun x => x)
theorem lay3_two (x : World) (l1 l2 : List Int) : Blk (lay3 x l1 l2) (x.heap.size + 1) (l2.map (Value.int .i64)) 3 :=
  (Blk.newAt (x.alloc (.cells (l1.map (Value.int .i64)).toArray 3)) (l2.map (Value.int .i64)) 3 (by rw [World.size_alloc])).keeps ((Keeps.refl Non _).alloc _) (fun x => x)
theorem owns_blk {w : World} {base g : Nat} {xs : List Value} {e : TypeId} {n : Nat} (h : Blk w g xs e) (hg : base ≤ g) (hn : xs.length = n) (hb : n ≤ 1000) : w.ownsRow base e 1 (.slice (some ⟨g, 0, none⟩) n n) n xs :=
  ⟨by omega, .inr ⟨g, n, xs.toArray, rfl, hg, h, Nat.le_refl _, by unfold maxLen; omega, by simp [hn], by rw [Nat.mul_one]; exact List.take_of_length_le (by simp [hn])⟩⟩
theorem lay3_cop (x : World) (l1 l2 : List Int) (h1 : l1.length ≤ 100) (h2 : l2.length ≤ 100) : CopAt x.heap.size (lay3 x l1 l2) (x.heap.size + 1 + 1) [.slice (some ⟨x.heap.size, 0, none⟩) l1.length l1.length, .slice (some ⟨x.heap.size + 1, 0, none⟩) l2.length l2.length, .slice none 0 0] [] [l1, l2, []] where
  blk := by rw [List.append_nil]; exact lay3_blk x l1 l2
  len := rfl
  kids := ⟨fun j hj => by
    match j, hj with
    | 0, _ => exact ⟨_, rfl, owns_blk (lay3_one x l1 l2) (Nat.le_refl _) (by simp) (by show l1.length ≤ 1000; omega)⟩
    | 1, _ => exact ⟨_, rfl, owns_blk (lay3_two x l1 l2) (by omega) (by simp) (by show l2.length ≤ 1000; omega)⟩
    | 2, _ => exact ⟨_, rfl, World.ownsRow_nil _ _ _ _⟩, fun i j v v' hij hi hj hv hv' g hg he => by
    match i, hi, j, hj with
    | 0, _, 0, _ => exact hij rfl
    | 1, _, 1, _ => exact hij rfl
    | 2, _, 2, _ => exact hij rfl
    | 2, _, 0, _ => cases hv; cases hg
    | 2, _, 1, _ => cases hv; cases hg
    | 0, _, 2, _ => cases hv'; cases he
    | 1, _, 2, _ => cases hv'; cases he
    | 0, _, 1, _ =>
      cases hv; cases hv'
      have e1 : g = x.heap.size := (Option.some.inj hg).symm
      have e2 : g = x.heap.size + 1 := (Option.some.inj he).symm
      omega
    | 1, _, 0, _ =>
      cases hv; cases hv'
      have e1 : g = x.heap.size + 1 := (Option.some.inj hg).symm
      have e2 : g = x.heap.size := (Option.some.inj he).symm
      omega⟩
theorem lay3_rows (x : World) (l1 l2 : List Int) (h1 : l1.length ≤ 100) (h2 : l2.length ≤ 100) : Rows (lay3 x l1 l2) (some ⟨x.heap.size + 1 + 1, 0, none⟩) 3 [l1, l2, []] := by
  have hb := lay3_blk x l1 l2
  have i1 := ints_of_blk (lay3_one x l1 l2) (by omega)
  have i2 := ints_of_blk (lay3_two x l1 l2) (by omega)
  refine ⟨rfl, by omega, .inr ⟨x.heap.size + 1 + 1, 0, rfl, hb.lt, fun j hj => ?_⟩⟩
  match j, hj with
  | 0, _ => exact ⟨_, _, by rw [hb.cell]; rfl, i1⟩
  | 1, _ => exact ⟨_, _, by rw [hb.cell]; rfl, i2⟩
  | 2, _ => exact ⟨none, 0, by rw [hb.cell]; rfl, Ints.nil _ _⟩
theorem small_one (x : World) (d : Int) : Calls Try.prog 33 #[.slice (some ⟨x.heap.size + 1 + 1, 0, none⟩) 3 3, .int .i64 d] (lay3 x [1] [2, 2]) fun e w' => e = .returned (.bool true) ∧ Keeps Non (lay3 x [1] [2, 2]) w' :=
  one_l _ 3 3 [[1], [2, 2], []] d _ (lay3_rows x [1] [2, 2] (by simp) (by simp)) (by omega) (by simp [total])
theorem small_some (x : World) (d : Int) : Calls Try.prog 34 #[.slice (some ⟨x.heap.size + 1 + 1, 0, none⟩) 3 3, .slice (some ⟨x.heap.size + 1 + 1 + 1, 0, none⟩) 2 2] ((lay3 x [1] [2]).alloc (.cells #[.int .i64 0, .int .i64 d] 3)) fun e w' => e = .returned (.bool true) ∧ Keeps Non ((lay3 x [1] [2]).alloc (.cells #[.int .i64 0, .int .i64 d] 3)) w' :=
  some_l _ _ 3 3 2 2 [[1], [2], []] [0, d] _ ((lay3_rows x [1] [2] (by simp) (by simp)).non ((Keeps.refl Non _).alloc _)) (ints_laid (lay3 x [1] [2]) [0, d] (lay3_size x [1] [2]).symm (by simp)) (by omega) (by simp [total]) (by omega) (by omega)
end
section
open Go.RowKit
set_option linter.unusedVariables false
def ringR (n : Nat) (j : Nat) : List Int := [((j : Int) + 1) % (n : Int)]
def ringL' (n : Nat) : List (List Int) := (List.range n).map (ringR n)
theorem ring_length (n : Nat) : (ringL' n).length = n := by simp [ringL']
theorem ring_at {n j : Nat} (h : j < n) : (ringL' n).getD j [] = ringR n j := by
  rw [getD_numL (by rw [ring_length]; exact h)]
  simp [ringL']
theorem ring_total (n : Nat) : ∀ k, k ≤ n → total ((ringL' n).take k) = k
  | 0, _ => by simp [total]
  | k + 1, h => by
    rw [total_take_succ (next := ringL' n) (k := k) (by rw [ring_length]; omega), ring_total n k (by omega), ring_at (by omega)]
    rfl
theorem ring_check {n : Nat} (h0 : 0 < n) (h : n ≤ 1024) : checkB (ringL' n) = true := by
  refine checkB_iff.2 ⟨by rw [ring_length]; exact h, ?_, fun l hl x hx => ?_⟩
  · have := ring_total n n (Nat.le_refl _)
    rw [List.take_of_length_le (by rw [ring_length]; exact Nat.le_refl _)] at this
    omega
  · rw [ring_length]
    obtain ⟨j, hj, rfl⟩ := List.mem_map.1 hl
    rw [List.mem_singleton.1 hx]
    exact ⟨Int.emod_nonneg _ (by omega), Int.emod_lt_of_pos _ (by omega)⟩
theorem ring_succ {n : Nat} {p : Int} (hp : 0 ≤ p ∧ p < (n : Int)) : succL (ringL' n) p = [(p + 1) % (n : Int)] := by
  unfold succL
  rw [ring_at (by omega)]
  unfold ringR
  rw [show ((p.toNat : Nat) : Int) = p by omega]
theorem ring_wk {n : Nat} (h1 : 1 < n) {k : Nat} {b : Int} (h : Wk (succL (ringL' n)) 1 k b) : b = (1 + (k : Int)) % (n : Int) := by
  induction h with
  | nil => rw [Int.emod_eq_of_lt (by omega) (by omega)]; omega
  | @step k b c h2 h3 ih =>
    subst ih
    have e1 := Int.emod_nonneg (1 + (k : Int)) (b := (n : Int)) (by omega)
    have e2 := Int.emod_lt_of_pos (1 + (k : Int)) (b := (n : Int)) (by omega)
    rw [ring_succ ⟨e1, e2⟩, List.mem_singleton] at h3
    rw [h3, Int.emod_add_emod]
    congr 1
theorem ring_go {n : Nat} (h1 : 1 < n) : ∀ k : Nat, Wk (succL (ringL' n)) 1 k ((1 + (k : Int)) % (n : Int))
  | 0 => by
    rw [Int.emod_eq_of_lt (by omega) (by omega)]
    exact .nil
  | k + 1 => by
    refine .step (ring_go h1 k) ?_
    have e1 := Int.emod_nonneg (1 + (k : Int)) (b := (n : Int)) (by omega)
    have e2 := Int.emod_lt_of_pos (1 + (k : Int)) (b := (n : Int)) (by omega)
    rw [ring_succ ⟨e1, e2⟩, List.mem_singleton, Int.emod_add_emod]
    congr 1
theorem ring_far {n : Nat} (h1 : 1 < n) (h : n ≤ 1024) : (waysL (ringL' n) n 1).getD 0 0 = (n : Int) - 1 := by
  have hl := ring_length n
  have f := ways_far (ring_check (by omega) h) (s := 1) (by rw [hl]; omega) 0 (by rw [hl]; omega)
  rw [hl] at f
  have h2 := ring_go h1 (n - 1)
  have e : (1 + ((n - 1 : Nat) : Int)) % (n : Int) = 0 := by
    rw [show (1 + ((n - 1 : Nat) : Int)) = (n : Int) by omega]
    exact Int.emod_self
  rw [e] at h2
  have h3 := f.least (n - 1) h2
  have h4 := ring_wk h1 (f.wk h3.1)
  obtain ⟨y, hy⟩ : ∃ y, (waysL (ringL' n) n 1).getD 0 0 = y := ⟨_, rfl⟩
  rw [hy] at h3 h4 ⊢
  have h5 : ((y.toNat : Nat) : Int) = y := by omega
  rw [h5] at h4
  by_cases h6 : 1 + y < (n : Int)
  · rw [Int.emod_eq_of_lt (by omega) h6] at h4
    omega
  · omega
/-- The line, as far as i. -/
def lineR (n i j : Nat) : List Int := if j < i then ringR n j else []
structure LineP (w : World) (T : Nat) (S : List Value) (n i : Nat) : Prop where
  blk : Blk w T S 25
  len : S.length = n + 1
  row : ∀ j, j < n + 1 → ∃ a c, S[j]? = some (.slice a (lineR n i j).length c) ∧ Ints w a (lineR n i j).length (lineR n i j)
theorem ints_store {w : World} {T i : Nat} {S : List Value} {a : Option Addr} {m : Nat} {xs : List Int} (h : Ints w a m xs) (hb : Blk w T S 25) (hs : ∀ v ∈ S, ∃ b k c, v = .slice b k c) (u : Value) : Ints (w.setCell ⟨T, i, none⟩ u) a m xs := by
  refine ⟨h.len, h.big, ?_⟩
  by_cases h0 : m = 0
  · exact .inl h0
  · obtain ⟨b, off, ha, hlt, hc⟩ := h.at (by omega)
    have hbT : b ≠ T := by
      rintro rfl
      have h1 := hc 0 (by omega)
      rw [hb.cell] at h1
      obtain ⟨_, _, _, e⟩ := hs _ (List.mem_of_getElem? h1)
      cases e
    refine .inr ⟨b, off, ha, by simp only [World.setCell]; simpa using hlt, fun j hj => ?_⟩
    rw [← hc j hj]
    exact World.cell?_of_block (Below.heap_setCell w ⟨T, i, none⟩ u b hbT)
theorem LineP.put {w : World} {T : Nat} {S : List Value} {n i : Nat} (h : LineP w T S n i) (hi : i < n) {a : Option Addr} {c : Nat} (hI : Ints w a 1 (ringR n i)) : LineP (w.setCell ⟨T, i, none⟩ (.slice a 1 c)) T (S.set i (.slice a 1 c)) n (i + 1) := by
  have hsl : ∀ v ∈ S, ∃ b k c, v = .slice b k c := fun v hv => by
    obtain ⟨j, hj⟩ := List.mem_iff_getElem?.1 hv
    have hjl := (List.getElem?_eq_some_iff.1 hj).1
    obtain ⟨a, c, h1, _⟩ := h.row j (by rw [← h.len]; exact hjl)
    rw [hj] at h1
    exact ⟨_, _, _, Option.some.inj h1⟩
  refine ⟨h.blk.store i _, by simp [h.len], fun j hj => ?_⟩
  by_cases hij : i = j
  · subst hij
    have e : lineR n (i + 1) i = ringR n i := if_pos (by omega)
    rw [e]
    exact ⟨a, c, by rw [List.getElem?_set_self (by rw [h.len]; omega)]; rfl, ints_store hI h.blk hsl _⟩
  · have e : lineR n (i + 1) j = lineR n i j := by
      unfold lineR
      by_cases h1 : j < i
      · rw [if_pos h1, if_pos (by omega)]
      · rw [if_neg h1, if_neg (by omega)]
    rw [e]
    obtain ⟨a2, c2, h1, h2⟩ := h.row j hj
    exact ⟨a2, c2, by rw [List.getElem?_set_ne hij]; exact h1, ints_store h2 h.blk hsl _⟩
theorem LineP.non {w w' : World} {T : Nat} {S : List Value} {n i : Nat} (h : LineP w T S n i) (k : Keeps Non w w') : LineP w' T S n i :=
  ⟨h.blk.keeps k (fun x => x), h.len, fun j hj => by obtain ⟨a, c, h1, h2⟩ := h.row j hj; exact ⟨a, c, h1, h2.non k⟩⟩
def lineL (n : Nat) : List (List Int) := (List.range (n + 1)).map (lineR n n)
theorem lineL_length (n : Nat) : (lineL n).length = n + 1 := by simp [lineL]
theorem lineL_at {n j : Nat} (h : j < n + 1) : (lineL n).getD j [] = lineR n n j := by
  rw [getD_numL (by rw [lineL_length]; exact h)]
  simp [lineL]
theorem LineP.rows {w : World} {T : Nat} {S : List Value} {n : Nat} (h : LineP w T S n n) (hn : n ≤ 100000) : Rows w (some ⟨T, 0, none⟩) (n + 1) (lineL n) := by
  refine ⟨lineL_length n, by omega, .inr ⟨T, 0, rfl, h.blk.lt, fun j hj => ?_⟩⟩
  obtain ⟨a, c, h1, h2⟩ := h.row j hj
  rw [lineL_at hj]
  exact ⟨a, c, by rw [h.blk.cell, Nat.zero_add]; exact h1, h2⟩
theorem LineP.ring {w : World} {T : Nat} {S : List Value} {n : Nat} (h : LineP w T S n n) (hn : n ≤ 100000) : Rows w (some ⟨T, 0, none⟩) n (ringL' n) := by
  refine ⟨ring_length n, by omega, .inr ⟨T, 0, rfl, h.blk.lt, fun j hj => ?_⟩⟩
  obtain ⟨a, c, h1, h2⟩ := h.row j (by omega)
  have e : lineR n n j = ringR n j := if_pos hj
  rw [e] at h1 h2
  rw [ring_at hj]
  exact ⟨a, c, by rw [h.blk.cell, Nat.zero_add]; exact h1, h2⟩
theorem LineP.start (w : World) {T n : Nat} (hT : w.heap.size = T) : LineP (w.alloc (.cells (List.replicate (n + 1) (Value.slice none 0 0)).toArray 25)) T (List.replicate (n + 1) (Value.slice none 0 0)) n 0 := by
  refine ⟨Blk.newAt w _ 25 hT.symm, by simp, fun j hj => ?_⟩
  have e : lineR n 0 j = [] := if_neg (by omega)
  rw [e]
  exact ⟨none, 0, by rw [List.getElem?_replicate, if_pos hj]; rfl, Ints.nil _ _⟩
theorem line_bad (n : Nat) (h : 1024 ≤ n) : ¬ checkB (lineL n) = true := fun hc => by
  have := (checkB_iff.1 hc).1
  rw [lineL_length] at this
  omega
end
section
open Go.RowKit
attribute [local go_sem] onto_cell onto_frozen
set_option linter.unusedVariables false
theorem total_le_of {xss : List (List Int)} {m : Nat} (h : ∀ i, (xss.getD i []).length ≤ m) : ∀ k, k ≤ xss.length → total (xss.take k) ≤ k * m
  | 0, _ => by simp [total]
  | k + 1, hk => by
    have h1 := total_le_of h k (by omega)
    have h2 := h k
    rw [total_take_succ (next := xss) (k := k) (by omega), Nat.add_mul, Nat.one_mul]
    omega
theorem rows2_at (W : World) (g : Nat) (a1 a2 : Option Addr) (n1 n2 c1 c2 : Nat) (xs ys : List Int) (hb : Blk W g [.slice a1 n1 c1, .slice a2 n2 c2] 25) (h1 : Ints W a1 n1 xs) (h2 : Ints W a2 n2 ys) : Rows W (some ⟨g, 0, none⟩) 2 [xs, ys] := by
  refine ⟨rfl, by omega, .inr ⟨g, 0, rfl, hb.lt, fun i hi => ?_⟩⟩
  match i, hi with
  | 0, _ => exact ⟨a1, c1, by rw [hb.cell]; show some (Value.slice a1 n1 c1) = some (Value.slice a1 xs.length c1); rw [h1.len], by show Ints _ a1 xs.length xs; rw [h1.len]; exact h1⟩
  | 1, _ => exact ⟨a2, c2, by rw [hb.cell]; show some (Value.slice a2 n2 c2) = some (Value.slice a2 ys.length c2); rw [h2.len], by show Ints _ a2 ys.length ys; rw [h2.len]; exact h2⟩
theorem many_ok {n : Nat} (h : n = 16383) : checkE [List.replicate n (0 : Int), [0]] = 0 := by
  unfold checkE
  rw [if_pos]
  refine checkB_iff.2 ⟨by simp, by simp [total]; omega, fun l hl x hx => ?_⟩
  simp only [List.mem_cons, List.not_mem_nil, or_false] at hl
  rcases hl with rfl | rfl
  · rw [(List.mem_replicate.1 hx).2]; simp
  · rw [List.mem_singleton.1 hx]; simp
theorem many_bad {n : Nat} (h : n = 16383) : checkE [List.replicate n (0 : Int), [0, 1]] = 70 := by
  unfold checkE
  rw [if_neg]
  intro hc
  have := (checkB_iff.1 hc).2.1
  simp [total] at this
  omega
set_option maxRecDepth 100000 in
set_option maxHeartbeats 16000000 in
theorem law_small (w : World) : Calls Try.prog 9 #[] w fun e w' => e = .returned (.bool true) ∧ Keeps Non w w' := by
  obtain ⟨i0, hi, hz0, hz1, hz2⟩ := info3_parts
  go_enter Try.func9, Try.ntmps9
  go_wp2_with fail
  go_loopw [14] (fun t wr => ∃ k : Nat, k ≤ 512 ∧ t = .int .i64 k ∧ Hid (Keeps Non w wr)) (fun t _ => 512 - (intOf t).toNat)
  case atStart => exact ⟨0, by omega, rfl, Keeps.refl _ _⟩
  case round =>
    obtain ⟨k, hk, rfl, HK⟩ := hrel
    by_cases hlt : k < 512
    · have k0 : (k : Int) < 512 := by omega
      have hms : (Instr.makeSlice 23 (.int .i64 3) (.int .i64 3)).run Try.prog wr = .ok (.slice (some ⟨wr.heap.size, 0, none⟩) 3 3) (wr.alloc (.cells (List.replicate 3 (Value.slice none 0 0)).toArray 25)) := make23 wr 3 (by omega)
      obtain ⟨T, hT⟩ : ∃ T, wr.heap.size = T := ⟨_, rfl⟩
      have HTs := hide hT
      have HA0 := hide (rowsAt_made wr (n := 3) hT)
      have HK0 := hide ((Keeps.refl Non wr).alloc (.cells (List.replicate 3 (Value.slice none 0 0)).toArray 25))
      obtain ⟨W0, hW0⟩ : ∃ W, wr.alloc (.cells (List.replicate 3 (Value.slice none 0 0)).toArray 25) = W := ⟨_, rfl⟩
      obtain ⟨xs0, hx0⟩ : ∃ xs, List.replicate 3 ([] : List Int) = xs := ⟨_, rfl⟩
      have hxl : xs0.length = 3 := by rw [← hx0]; rfl
      have hxs : ∀ i, (xs0.getD i []).length ≤ 0 := fun i => by
        rw [← hx0, List.getD_eq_getElem?_getD, List.getElem?_replicate]
        split <;> simp
      rw [hW0, hT] at hms
      rw [hW0, hx0] at HA0
      rw [hW0] at HK0
      obtain ⟨w0, hw0⟩ : ∃ w0, w0 = wr := ⟨_, rfl⟩
      subst hw0
      have HXl := hide hxl
      have HXs := hide hxs
      clear hT hW0 hx0 hxl hxs
      go_wp2_with fail
      clear hms
      go_loopw [18] (fun t wx => ∃ (i : Nat) (S : List Value) (xss : List (List Int)), i ≤ 9 ∧ t = .int .i64 i ∧ xss.length = 3 ∧ Hid (∀ j, (xss.getD j []).length ≤ i) ∧ Hid (RowsAt wx T S xss) ∧ Hid (Keeps Non w0 wx)) (fun t _ => 9 - (intOf t).toNat)
      case atStart => exact ⟨0, _, _, by omega, rfl, HXl.out, HXs.out, HA0.out, HK0.out⟩
      case round =>
        clear HXl HXs HA0 HK0
        obtain ⟨i, S, xss, hi9, rfl, hxl, HXs, HA, HKi⟩ := hrel
        by_cases hil : i < 9
        · have i0' : (i : Int) < 9 := by omega
          have i1' : (0 : Int) ≤ (i : Int) := by omega
          have i2' : ¬ (i : Int) < 0 := by omega
          by_cases hb : (bits BinOp.and IntKind.i64 ((k : Int) / 2 ^ i) 1 == 1) = true
          · have hp3 : i / 3 < 3 := by omega
            obtain ⟨v, hv, ho⟩ := HA.out.row (i / 3) (by omega)
            have hysl := HXs.out (i / 3)
            obtain ⟨ys, hys⟩ : ∃ ys, xss.getD (i / 3) [] = ys := ⟨_, rfl⟩
            rw [hys] at ho hysl
            obtain ⟨yl, hyl⟩ : ∃ yl, ys.length = yl := ⟨_, rfl⟩
            rw [hyl] at ho hysl
            have HYl := hide hyl
            have HYs := hide hys
            have HO := hide ho
            have HV := hide hv
            have HXl := hide hxl
            have cb : wr.cell? ⟨T, i / 3, none⟩ = some v := by rw [HA.out.blk.cell]; exact hv
            have fb := HA.out.blk.free (i / 3) none
            have lb := HA.out.blk.lt
            obtain ⟨va, vc, rfl⟩ := owns_slice ho
            have hgB : some T ≠ (Value.slice va yl vc).ownBlock := fun e => by
              have := own_ge HO.out T e.symm
              omega
            have HN5 : Hid (∀ (d : Int) v' w5, w5.ownsRow (T + 1) 3 1 v' (yl + 1) ((ys.map (Value.int .i64)) ++ [.int .i64 d]) → (wr.alloc (.cells #[.int .i64 d] 3)).grownBy w5 (Value.slice va yl vc).ownBlock → (v'.ownBlock = (Value.slice va yl vc).ownBlock ∨ v'.ownBlock = some (wr.alloc (.cells #[.int .i64 d] 3)).heap.size) →
                Hid (RowsAt (w5.setCell ⟨T, i / 3, none⟩ v') T (S.set (i / 3) v') (xss.set (i / 3) (ys ++ [d]))) ∧ Hid (Keeps Non w0 (w5.setCell ⟨T, i / 3, none⟩ v') ∧ (xss.set (i / 3) (ys ++ [d])).length = 3 ∧ ∀ j, ((xss.set (i / 3) (ys ++ [d])).getD j []).length ≤ i + 1) ∧ w5.cell? ⟨T, i / 3, none⟩ = some (.slice va yl vc) ∧ w5.frozen? ⟨T, i / 3, none⟩ = false ∧ T < w5.heap.size) := fun d v' w5 hown hgrow hat => by
              refine ⟨?_, ⟨?_, by simp [HXl.out], fun j => ?_⟩, ?_, ?_, ?_⟩
              · show RowsAt _ _ _ _
                refine HA.out.put (by rw [HXl.out]; exact hp3) HV.out ((Keeps.refl Non wr).alloc _) ?_ hgrow (hat.imp id fun e g hg => ?_)
                · rw [List.length_append, List.map_append, HYl.out]
                  exact hown
                · rw [e] at hg
                  cases hg
                  simp
              · exact (keeps_grown (HKi.out.alloc _) hgrow (fun g hg => .inr (by have := own_ge HO.out g hg; have := HTs.out; omega))).set (.inr (by have := HTs.out; show w0.heap.size ≤ T; omega)) _
              · rw [getD_set (by rw [HXl.out]; exact hp3)]
                split
                · rw [List.length_append, HYl.out]; simp; omega
                · have := HXs.out j; omega
              · exact (World.cell?_of_block (w := wr.alloc (.cells #[.int .i64 d] 3)) (hgrow.block T (by simp; omega) hgB)).trans ((((Keeps.refl Non wr).alloc (.cells #[.int .i64 d] 3)).cell (p := ⟨T, i / 3, none⟩) lb (fun x => x)).trans cb)
              · exact (World.frozen?_of_block (w := wr.alloc (.cells #[.int .i64 d] 3)) (hgrow.block T (by simp; omega) hgB)).trans ((((Keeps.refl Non wr).alloc (.cells #[.int .i64 d] 3)).frozen (p := ⟨T, i / 3, none⟩) lb (fun x => x)).trans fb)
              · have := hgrow.size; simp at this; omega
            clear hv ho hys hyl hgB hxl
            go_wp2_with (at_builtin; refine wpList_append_own_at _ rfl _ _ 25 rfl (T + 1) 3 i0 (.int .i64 0) 1 8 Try.underlying25 hi hz0 hz1 hz2 rfl (by decide) _ yl (ys.map (Value.int .i64)) rfl (owns_keeps HO.out ((Keeps.refl Non _).alloc _) (fun _ _ x => x)) ⟨wr.heap.size, 0, none⟩ 1 1 [.int .i64 _] rfl rfl (cell_one_new _ _ _) (by intro u hu; simp at hu; subst hu; rfl) (by unfold maxLen; omega) (by omega) (by simp; omega) ?_; intro v' w5 hown hgrow hnil hat; obtain ⟨HRn, HKn, cb5, fb5, lb5⟩ := HN5.out _ v' w5 hown hgrow hat; obtain ⟨a5, c5, rfl⟩ := owns_slice hown; clear hown hgrow hnil hat)
            go_roundw
            case rel => exact ⟨i + 1, _, _, by omega, by go_num, HKn.out.2.1, HKn.out.2.2, HRn.out, HKn.out.1⟩
            case measure => simp [intOf]; omega
          · have hb2 : (bits BinOp.and IntKind.i64 ((k : Int) / 2 ^ i) 1 == 1) = false := by simpa using hb
            clear hb
            go_wp2_with fail
            go_roundw
            case rel => exact ⟨i + 1, S, xss, by omega, by go_num, hxl, fun j => Nat.le_succ_of_le (HXs.out j), HA.out, HKi.out⟩
            case measure => simp [intOf]; omega
        · have hi9' : i = 9 := by omega
          subst hi9'
          have hRr := HA.out.rows (by omega) (fun j => by have := HXs.out j; omega)
          rw [hxl] at hRr
          have htot : total xss ≤ 200 := by
            have := total_le_of HXs.out 3 (by omega)
            rw [List.take_of_length_le (by omega)] at this
            omega
          have HO : Hid (∀ (st : Int) w', Keeps Non wr w' → Calls Try.prog 33 #[.slice (some ⟨T, 0, none⟩) 3 3, .int .i64 st] w' fun e w2 => e = .returned (.bool true) ∧ Keeps Non w' w2) := fun st w' hk => one_l (some ⟨T, 0, none⟩) 3 3 xss st w' (hRr.non hk) (by omega) htot
          have HS2 : Hid (∀ (x y : Int) w', Keeps Non wr w' → Calls Try.prog 34 #[.slice (some ⟨T, 0, none⟩) 3 3, .slice (some ⟨w'.heap.size, 0, none⟩) 2 2] (w'.alloc (.cells #[.int .i64 x, .int .i64 y] 3)) fun e w2 => e = .returned (.bool true) ∧ Keeps Non (w'.alloc (.cells #[.int .i64 x, .int .i64 y] 3)) w2) := fun x y w' hk => some_l (some ⟨T, 0, none⟩) (some ⟨w'.heap.size, 0, none⟩) 3 3 2 2 xss [x, y] _ (hRr.non (hk.alloc _)) (ints_laid w' [x, y] rfl (by simp)) (by omega) htot (by omega) (by omega)
          have HS1 : Hid (∀ (x : Int) w', Keeps Non wr w' → Calls Try.prog 34 #[.slice (some ⟨T, 0, none⟩) 3 3, .slice (some ⟨w'.heap.size, 0, none⟩) 1 1] (w'.alloc (.cells #[.int .i64 x] 3)) fun e w2 => e = .returned (.bool true) ∧ Keeps Non (w'.alloc (.cells #[.int .i64 x] 3)) w2) := fun x w' hk => some_l (some ⟨T, 0, none⟩) (some ⟨w'.heap.size, 0, none⟩) 3 3 1 1 xss [x] _ (hRr.non (hk.alloc _)) (ints_laid w' [x] rfl (by simp)) (by omega) htot (by omega) (by omega)
          obtain ⟨w9, hw9⟩ : ∃ z, z = wr := ⟨_, rfl⟩
          subst hw9
          have HK9 := hide HKi.out
          clear hRr htot HKi HA HXs
          go_wp2_with fail
          refine (HO.out _ w9 (Keeps.refl _ _)).mono ?_
          rintro e x1 ⟨rfl, hk1⟩
          have HK1 := hide hk1
          clear hk1
          go_wp2_with fail
          refine (HO.out _ x1 HK1.out).mono ?_
          rintro e x2 ⟨rfl, hk2⟩
          have HK2 := hide (HK1.out.then hk2)
          clear hk2
          go_wp2_with fail
          go_loopw [55] (fun t wx => ∃ q : Nat, q ≤ 10 ∧ t = .int .i64 q ∧ Hid (Keeps Non w9 wx)) (fun t _ => 10 - (intOf t).toNat)
          case atStart => exact ⟨0, by omega, rfl, HK2.out⟩
          case round =>
            obtain ⟨q, hq, rfl, HKq⟩ := hrel
            by_cases hql : q < 10
            · have q0 : (q : Int) < 10 := by omega
              have q1 : (0 : Int) ≤ (q : Int) := by omega
              go_wp2_with fail
              refine (HS2.out _ _ wr HKq.out).mono ?_
              rintro e x3 ⟨rfl, hk3⟩
              have HK3 := hide ((HKq.out.alloc _).then hk3)
              clear hk3
              go_wp2_with fail
              refine (HS1.out _ x3 HK3.out).mono ?_
              rintro e x4 ⟨rfl, hk4⟩
              have HK4 := hide ((HK3.out.alloc _).then hk4)
              clear hk4
              go_wp2_with fail
              go_roundw
              case rel => exact ⟨q + 1, by omega, by go_num, HK4.out⟩
              case measure => simp [intOf]; omega
            · have hqq : q = 10 := by omega
              subst hqq
              go_wp2_with fail
              go_roundw
              case rel => exact ⟨k + 1, by omega, by go_num, (HK.out.then HK9.out).then HKq.out⟩
              case measure => simp [intOf]; omega
    · have hk2 : k = 512 := by omega
      subst hk2
      obtain ⟨C, hC⟩ : ∃ C, wr.heap.size = C := ⟨_, rfl⟩
      have HC0 : Hid (Blk (wr.alloc (.cells #[.int .i64 (-9223372036854775808), .int .i64 (-1), .int .i64 3, .int .i64 9223372036854775807] 3)) C [.int .i64 (-9223372036854775808), .int .i64 (-1), .int .i64 3, .int .i64 9223372036854775807] 3) := Blk.newAt wr [.int .i64 (-9223372036854775808), .int .i64 (-1), .int .i64 3, .int .i64 9223372036854775807] 3 hC.symm
      have HK0 := hide (HK.out.alloc (.cells #[.int .i64 (-9223372036854775808), .int .i64 (-1), .int .i64 3, .int .i64 9223372036854775807] 3))
      clear HK
      go_wp2_with fail
      obtain ⟨W1, hW1⟩ : ∃ W1, wr.alloc (.cells #[.int .i64 (-9223372036854775808), .int .i64 (-1), .int .i64 3, .int .i64 9223372036854775807] 3) = W1 := ⟨_, rfl⟩
      rw [hW1] at HC0 HK0
      try rw [hW1]
      try rw [hC]
      clear hW1 hC
      go_loopw [78] (fun t wr => ∃ k : Nat, k ≤ 4 ∧ t = .int .i64 k ∧ Hid (Keeps Non W1 wr)) (fun t _ => 4 - (intOf t).toNat)
      case atStart => exact ⟨0, by omega, rfl, Keeps.refl _ _⟩
      case round =>
        obtain ⟨k, hk, rfl, HK⟩ := hrel
        by_cases hlt : k < 4
        · have hd : ∃ d : Int, wr.cell? ⟨C, k, none⟩ = some (.int .i64 d) := by
            have hc := (HC0.out.keeps HK.out (fun x => x)).cell k
            match k, hlt with
            | 0, _ => exact ⟨_, hc⟩
            | 1, _ => exact ⟨_, hc⟩
            | 2, _ => exact ⟨_, hc⟩
            | 3, _ => exact ⟨_, hc⟩
          obtain ⟨d, cd⟩ := hd
          have lC := (HC0.out.keeps HK.out (fun x => x)).lt
          have z0 : (0 : Int) ≤ (k : Int) := by omega
          have z1 : (k : Int) < 4 := by omega
          obtain ⟨w2, hw2⟩ : ∃ z, z = wr := ⟨_, rfl⟩
          subst hw2
          go_wp2_with fail
          clear cd lC
          go_loopw [82] (fun t wr => ∃ i : Nat, i ≤ 3 ∧ t = .int .i64 i ∧ Hid (Keeps Non w2 wr)) (fun t _ => 3 - (intOf t).toNat)
          case atStart => exact ⟨0, by omega, rfl, Keeps.refl _ _⟩
          case round =>
            obtain ⟨i, hi3, rfl, HKi⟩ := hrel
            by_cases hil : i < 3
            · have i1' : (i : Int) < 3 := by omega
              have i0' : (0 : Int) ≤ (i : Int) := by omega
              go_upto_region 27 with fail
              rw [show (((wr.alloc (.cells #[.int .i64 1] 3)).alloc (.cells #[.int .i64 2, .int .i64 2] 3)).alloc (.cells #[.slice (some ⟨wr.heap.size, 0, none⟩) 1 1, .slice (some ⟨wr.heap.size + 1, 0, none⟩) 2 2, .slice none 0 0] 25)) = lay3 wr [1] [2, 2] from rfl]
              have hcat := lay3_cop wr [1] [2, 2] (by simp) (by simp)
              have hkl := lay3_keeps wr [1] [2, 2]
              obtain ⟨y0, hy0⟩ : ∃ z, lay3 wr [1] [2, 2] = z := ⟨_, rfl⟩
              obtain ⟨base, hbase⟩ : ∃ z, wr.heap.size = z := ⟨_, rfl⟩
              obtain ⟨g, hg⟩ : ∃ z, base + 1 + 1 = z := ⟨_, rfl⟩
              obtain ⟨nx, hnx⟩ : ∃ z, ([[1], [2, 2], []] : List (List Int)) = z := ⟨_, rfl⟩
              have hnl : nx.length = 3 := by rw [← hnx]; rfl
              have hns : ∀ j, (nx.getD j []).length ≤ 2 := fun j => by
                rw [← hnx]
                match j with
                | 0 => simp
                | 1 => simp
                | 2 => simp
                | j + 3 => simp
              obtain ⟨S9, hS9⟩ : ∃ z, ([.slice (some ⟨base, 0, none⟩) ([1] : List Int).length ([1] : List Int).length, .slice (some ⟨base + 1, 0, none⟩) ([2, 2] : List Int).length ([2, 2] : List Int).length, .slice none 0 0] : List Value) = z := ⟨_, rfl⟩
              rw [hy0, hbase] at hcat
              rw [hS9, hg, hnx] at hcat
              rw [hy0] at hkl ⊢
              try rw [hbase, hg]
              have HCt := hide hcat
              have HKl := hide hkl
              have HBs := hide hbase
              have HGb : Hid (base ≤ g) := by show _ ≤ _; omega
              have HNs := hide hns
              have HNl := hide hnl
              have hby : base ≤ y0.heap.size := by rw [← hbase]; exact hkl.size
              clear hcat hkl hy0 hbase hg hnx hS9 hns hnl
              obtain ⟨u, hu, ho⟩ := HCt.out.kids.row i (by rw [HNl.out]; exact hil)
              have hsh := HNs.out i
              obtain ⟨ys, hys⟩ : ∃ ys, nx.getD i [] = ys := ⟨_, rfl⟩
              rw [hys] at ho hsh
              obtain ⟨q, hq⟩ : ∃ q, ys.length = q := ⟨_, rfl⟩
              rw [hq] at ho hsh
              have HQ := hide hq
              have HO := hide ho
              have HU := hide hu
              have cb : y0.cell? ⟨g, i, none⟩ = some u := by
                rw [HCt.out.blk.cell, List.getElem?_append_left (by rw [HCt.out.len, HNl.out]; exact hil)]
                exact hu
              have fb := HCt.out.blk.free i none
              have lb := HCt.out.blk.lt
              obtain ⟨va, vc, rfl⟩ := owns_slice ho
              have HN5 : Hid (∀ v' w5, w5.ownsRow base 3 1 v' (q + 1) ((ys.map (Value.int .i64)) ++ [.int .i64 d]) → (y0.alloc (.cells #[.int .i64 d] 3)).grownBy w5 (Value.slice va q vc).ownBlock → (v'.ownBlock = (Value.slice va q vc).ownBlock ∨ v'.ownBlock = some (y0.alloc (.cells #[.int .i64 d] 3)).heap.size) →
                  Hid (Rows (w5.setCell ⟨g, i, none⟩ v') (some ⟨g, 0, none⟩) 3 (nx.set i (ys ++ [d]))) ∧ Hid (Keeps (fun j => base ≤ j) y0 (w5.setCell ⟨g, i, none⟩ v')) ∧ w5.cell? ⟨g, i, none⟩ = some (.slice va q vc) ∧ w5.frozen? ⟨g, i, none⟩ = false ∧ g < w5.heap.size) := fun v' w5 hown hgrow hat => by
                have hgB : some g ≠ (Value.slice va q vc).ownBlock := fun e => KidsO.ne HCt.out (by rw [HNl.out]; exact hil) HU.out g e.symm rfl
                refine ⟨?_, ?_, ?_, ?_, ?_⟩
                · have h := HCt.out.turn (by rw [HNl.out]; omega) (fun j => by have := HNs.out j; omega) (i := i) (by rw [HNl.out]; exact hil) HU.out ((Keeps.refl Non y0).alloc (.cells #[.int .i64 d] 3)) (ys := ys ++ [d]) (v' := v') (w5 := w5) (by rw [List.length_append, HQ.out]; simp; omega) (by rw [List.length_append, List.map_append, HQ.out]; exact hown) hgrow (fun b hb => by
                    rcases hat with e | e
                    · rw [e] at hb
                      exact KidsO.ne HCt.out (by rw [HNl.out]; exact hil) HU.out b hb
                    · rw [e] at hb
                      cases hb
                      simp
                      omega)
                  rw [HNl.out] at h
                  exact h
                · exact (keeps_grown ((Keeps.refl _ y0).alloc _) hgrow (fun b hb => .inl (own_ge HO.out b hb))).set (.inl HGb.out) _
                · exact (World.cell?_of_block (w := y0.alloc (.cells #[.int .i64 d] 3)) (hgrow.block g (by simp; omega) hgB)).trans ((((Keeps.refl Non y0).alloc (.cells #[.int .i64 d] 3)).cell (p := ⟨g, i, none⟩) lb (fun x => x)).trans cb)
                · exact (World.frozen?_of_block (w := y0.alloc (.cells #[.int .i64 d] 3)) (hgrow.block g (by simp; omega) hgB)).trans ((((Keeps.refl Non y0).alloc (.cells #[.int .i64 d] 3)).frozen (p := ⟨g, i, none⟩) lb (fun x => x)).trans fb)
                · have := hgrow.size; simp at this; omega
              have htot : total (nx.set i (ys ++ [d])) ≤ 200 := by
                have h1 := total_le_of (xss := nx.set i (ys ++ [d])) (m := 3) (fun j => by
                  rw [getD_set (by rw [HNl.out]; exact hil)]
                  split
                  · rw [List.length_append, HQ.out]; simp; omega
                  · have := HNs.out j; omega) 3 (by rw [List.length_set, HNl.out]; omega)
                rw [List.take_of_length_le (by rw [List.length_set, HNl.out]; omega)] at h1
                omega
              have HTot := hide htot
              clear hu ho hys hq htot
              go_wp2_with (at_builtin; refine wpList_append_own_at _ rfl _ _ 25 rfl base 3 i0 (.int .i64 0) 1 8 Try.underlying25 hi hz0 hz1 hz2 rfl (by decide) _ q (ys.map (Value.int .i64)) rfl (owns_keeps HO.out ((Keeps.refl Non _).alloc _) (fun _ _ x => x)) ⟨y0.heap.size, 0, none⟩ 1 1 [.int .i64 d] rfl rfl (cell_one_new _ _ _) (by intro u hu; simp at hu; subst hu; rfl) (by unfold maxLen; omega) (by omega) (by simp; omega) ?_; intro v' w5 hown hgrow hnil hat; obtain ⟨HRn, HKn, cb5, fb5, lb5⟩ := HN5.out v' w5 hown hgrow hat; obtain ⟨a5, c5, rfl⟩ := owns_slice hown; clear hown hgrow hnil hat)
              have HKw : Hid (Keeps Non wr (w5.setCell ⟨g, i, none⟩ (.slice a5 (q + 1) c5))) := HKl.out.trans HKn.out (fun j hj h => by have := HBs.out; omega)
              obtain ⟨n3, hn3⟩ : ∃ z, nx.set i (ys ++ [d]) = z := ⟨_, rfl⟩
              obtain ⟨V, hV⟩ : ∃ V, w5.setCell ⟨g, i, none⟩ (.slice a5 (q + 1) c5) = V := ⟨_, rfl⟩
              rw [hn3] at HRn HTot
              rw [hV] at HRn HKw
              try rw [hV]
              have HKv := hide (HKi.out.then HKw.out)
              clear hn3 hV HKn cb5 fb5 lb5 cb fb lb HN5 HO HU HCt HKl HGb HKw HBs hby HKi
              have C1 := hide (one_l (some ⟨g, 0, none⟩) 3 3 n3 0 V HRn.out (by omega) HTot.out)
              refine C1.out.mono ?_
              rintro e x1 ⟨rfl, hk1⟩
              have C2 := hide (some_l (some ⟨g, 0, none⟩) (some ⟨x1.heap.size, 0, none⟩) 3 3 1 1 n3 [0] (x1.alloc (.cells #[.int .i64 0] 3)) (HRn.out.non (hk1.alloc _)) (ints_laid x1 [0] rfl (by simp)) (by omega) HTot.out (by omega) (by omega))
              have HK1 := hide (HKv.out.then (hk1.alloc (.cells #[.int .i64 0] 3)))
              clear hk1 C1 HRn HTot HKv
              go_wp2_with fail
              refine C2.out.mono ?_
              rintro e x2 ⟨rfl, hk2⟩
              have HK2 := hide (HK1.out.then hk2)
              clear hk2 C2 HK1
              have C3 := hide (small_one x2 d)
              have hl3 := lay3_keeps x2 [1] [2, 2]
              have HL3 := hide hl3
              clear hl3
              go_wp2_with fail
              rw [show (((x2.alloc (.cells #[.int .i64 1] 3)).alloc (.cells #[.int .i64 2, .int .i64 2] 3)).alloc (.cells #[.slice (some ⟨x2.heap.size, 0, none⟩) 1 1, .slice (some ⟨x2.heap.size + 1, 0, none⟩) 2 2, .slice none 0 0] 25)) = lay3 x2 [1] [2, 2] from rfl]
              refine C3.out.mono ?_
              rintro e x3 ⟨rfl, hk3⟩
              have HK3 := hide ((HK2.out.then HL3.out).then hk3)
              clear hk3 C3 HK2 HL3
              have C4 := hide (small_some x3 d)
              have HL4 := hide ((lay3_keeps x3 [1] [2]).alloc (.cells #[.int .i64 0, .int .i64 d] 3))
              go_wp2_with fail
              rw [show (((x3.alloc (.cells #[.int .i64 1] 3)).alloc (.cells #[.int .i64 2] 3)).alloc (.cells #[.slice (some ⟨x3.heap.size, 0, none⟩) 1 1, .slice (some ⟨x3.heap.size + 1, 0, none⟩) 1 1, .slice none 0 0] 25)) = lay3 x3 [1] [2] from rfl]
              refine C4.out.mono ?_
              rintro e x4 ⟨rfl, hk4⟩
              have HK4 := hide ((HK3.out.then HL4.out).then hk4)
              clear hk4 C4 HK3 HL4
              go_wp2_with fail
              go_roundw
              case rel => (repeat apply Exists.intro); exact ⟨⟨i + 1, by omega, by go_num, HK4.out⟩, rfl⟩
              case measure => simp [intOf]; omega
            · have hii : i = 3 := by omega
              subst hii
              go_wp2_with fail
              go_roundw
              case rel => exact ⟨k + 1, by omega, by go_num, HK.out.then HKi.out⟩
              case measure => simp [intOf]; omega
        · have hk4 : k = 4 := by omega
          subst hk4
          replace HK := hide (HK0.out.then HK.out)
          clear HC0 HK0
          obtain ⟨n, hn⟩ : ∃ n : Nat, n = 1024 := ⟨_, rfl⟩
          have hnI : (n : Int) = 1024 := by omega
          obtain ⟨m1, hm1⟩ : ∃ m : Nat, n + 1 = m := ⟨_, rfl⟩
          have hms := make23 wr (n + 1) (by omega)
          rw [show ((n + 1 : Nat) : Int) = 1025 by omega] at hms
          obtain ⟨T, hT⟩ : ∃ T, wr.heap.size = T := ⟨_, rfl⟩
          have HLp := hide (LineP.start wr (n := n) hT)
          have HKl := hide ((Keeps.refl Non wr).alloc (.cells (List.replicate (n + 1) (Value.slice none 0 0)).toArray 25))
          obtain ⟨W0, hW0⟩ : ∃ W, wr.alloc (.cells (List.replicate (n + 1) (Value.slice none 0 0)).toArray 25) = W := ⟨_, rfl⟩
          rw [hW0] at HLp HKl hms
          rw [hT, hm1] at hms
          have HTs := hide hT
          have HNe := hide hn
          have HNi := hide hnI
          have HM1 := hide hm1
          obtain ⟨w5, hw5⟩ : ∃ z, z = wr := ⟨_, rfl⟩
          subst hw5
          obtain ⟨S0, hS0⟩ : ∃ z, List.replicate (n + 1) (Value.slice none 0 0) = z := ⟨_, rfl⟩
          rw [hS0] at HLp
          clear hW0 hT hn hnI hm1 hS0
          go_wp2_with fail
          clear hms
          go_loopw [127] (fun t wx => ∃ (i : Nat) (S : List Value), i ≤ n ∧ t = .int .i64 i ∧ Hid (LineP wx T S n i) ∧ Hid (Keeps Non w5 wx)) (fun t _ => n - (intOf t).toNat)
          case atStart => exact ⟨0, S0, by omega, rfl, HLp.out, HKl.out⟩
          case round =>
            clear HLp HKl
            obtain ⟨i, S, hi2, rfl, HLp, HKi⟩ := hrel
            by_cases hil : i < n
            · have i1' : (i : Int) < 1024 := by have := HNi.out; omega
              have i0' : (0 : Int) ≤ (i : Int) := by omega
              have i2' : (i : Int) < (m1 : Int) := by have := HM1.out; omega
              obtain ⟨a7, c7, hs7, _⟩ := HLp.out.row i (by omega)
              have cb : wr.cell? ⟨T, i, none⟩ = some (.slice a7 (lineR n i i).length c7) := by rw [HLp.out.blk.cell]; exact hs7
              have fb := HLp.out.blk.free i none
              have lb := HLp.out.blk.lt
              have HRr : Hid (ringR n i = [((i : Int) + 1) % 1024]) := by show _ = _; unfold ringR; rw [HNi.out]
              have hpt := (HLp.out.non ((Keeps.refl Non wr).alloc (.cells #[.int .i64 (((i : Int) + 1) % 1024)] 3))).put hil (a := some ⟨wr.heap.size, 0, none⟩) (c := 1) (by rw [HRr.out]; exact ints_laid wr [((i : Int) + 1) % 1024] rfl (by simp))
              rw [World.setCell_alloc_past _ _ _ _ lb] at hpt
              have HPt := hide hpt
              clear hs7 hpt
              go_wp2_with fail
              go_roundw
              case rel => exact ⟨i + 1, _, by omega, by go_num, HPt.out, (HKi.out.set (b := T) (.inr (by have := HTs.out; omega)) _).alloc _⟩
              case measure => simp [intOf]; omega
            · have hin : i = n := by omega
              subst hin
              have y9 : ¬ (i : Int) < 1024 := by have := HNi.out; omega
              have HRg := hide (HLp.out.ring (by have := HNe.out; omega))
              have HRl := hide (HLp.out.rows (by have := HNe.out; omega))
              have hwl : (waysL (ringL' i) i 1).length = i := goW_length _ _
              have hrf := ring_far (n := i) (by have := HNe.out; omega) (by have := HNe.out; omega)
              have hrc := ring_check (n := i) (by have := HNe.out; omega) (by have := HNe.out; omega)
              have hbad := line_bad i (by have := HNe.out; omega)
              obtain ⟨Wy, hWy⟩ : ∃ W, waysL (ringL' i) i 1 = W := ⟨_, rfl⟩
              have C1 := y_ways (some ⟨T, 0, none⟩) i m1 (ringL' i) 1 Wy wr HRg.out hrc (by have := HNe.out; omega) hWy
              rw [hWy] at hrf
              have HCf : Hid (Wy.getD 0 0 = 1023) := by show _ = _; rw [hrf, HNi.out]; rfl
              have HBad := hide hbad
              have g1 : (1024 : Int) ≤ (m1 : Int) := by have := HM1.out; have := HNe.out; omega
              have g2 : 1024 ≤ m1 := by have := HM1.out; have := HNe.out; omega
              rw [HNe.out] at C1
              have HC1 := hide C1
              have HM2 : Hid (i + 1 = m1) := HM1.out
              clear hwl hrf hrc hbad hWy C1
              go_wp2_with fail
              refine HC1.out.mono ?_
              rintro e x1 ⟨b1, rfl, hI1, hk1⟩
              have HK1 := hide (HKi.out.then hk1)
              obtain ⟨b9, o9, ha9, l9, hc9⟩ := hI1.at (by omega)
              cases ha9
              have c9 := hc9 0 (by omega)
              rw [HCf.out, Nat.add_zero] at c9
              have hck := check_l (some ⟨T, 0, none⟩) m1 m1 (lineL i) x1 (by rw [← HM2.out]; exact HRl.out.non hk1)
              rw [checkE_bad HBad.out] at hck
              have C2 := hide hck
              clear hk1 hI1 hc9 hck HC1 HRg HRl
              go_wp2_with fail
              refine C2.out.mono ?_
              rintro e x2 ⟨rfl, hk2⟩
              have HK2 := hide (HK1.out.then hk2)
              clear hk2 C2 c9 l9
              obtain ⟨q, hq⟩ : ∃ q : Nat, q = 16383 := ⟨_, rfl⟩
              have hms := make25 x2 q (by omega)
              rw [show (q : Int) = 16383 by omega] at hms
              obtain ⟨M, hM⟩ : ∃ z, x2.heap.size = z := ⟨_, rfl⟩
              have hbM : Blk (x2.alloc (.cells (Array.replicate q (.int .i64 0)) 3)) M ((List.replicate q (0 : Int)).map (Value.int .i64)) 3 := by
                rw [List.map_replicate, ← List.toArray_replicate]
                exact Blk.newAt x2 (List.replicate q (.int .i64 0)) 3 hM.symm
              have hk3 := (Keeps.refl Non x2).alloc (.cells (Array.replicate q (.int .i64 0)) 3)
              obtain ⟨x3, hx3⟩ : ∃ z, x2.alloc (.cells (Array.replicate q (.int .i64 0)) 3) = z := ⟨_, rfl⟩
              rw [hx3] at hbM hk3 hms
              rw [hM] at hms
              have hIM := ints_of_blk hbM (by rw [List.length_replicate]; omega)
              rw [List.length_replicate] at hIM
              obtain ⟨g3, hg3⟩ : ∃ z, x3.heap.size = z := ⟨_, rfl⟩
              have hI4 := ints_laid x3 [0] hg3.symm (by simp)
              have hk4 := (Keeps.refl Non x3).alloc (.cells #[.int .i64 0] 3)
              have hbD : Blk ((x3.alloc (.cells #[.int .i64 0] 3)).alloc (.cells #[.slice (some ⟨M, 0, none⟩) q q, .slice (some ⟨g3, 0, none⟩) 1 1] 25)) (g3 + 1) [.slice (some ⟨M, 0, none⟩) q q, .slice (some ⟨g3, 0, none⟩) 1 1] 25 := Blk.newAt _ [.slice (some ⟨M, 0, none⟩) q q, .slice (some ⟨g3, 0, none⟩) 1 1] 25 (by rw [World.size_alloc, hg3])
              have hk5 := (Keeps.refl Non (x3.alloc (.cells #[.int .i64 0] 3))).alloc (.cells #[.slice (some ⟨M, 0, none⟩) q q, .slice (some ⟨g3, 0, none⟩) 1 1] 25)
              obtain ⟨x4, hx4⟩ : ∃ z, (x3.alloc (.cells #[.int .i64 0] 3)).alloc (.cells #[.slice (some ⟨M, 0, none⟩) q q, .slice (some ⟨g3, 0, none⟩) 1 1] 25) = z := ⟨_, rfl⟩
              rw [hx4] at hbD hk5
              have hR4 := rows2_at x4 (g3 + 1) _ _ q 1 q 1 (List.replicate q 0) [0] hbD ((hIM.non hk4).non hk5) (hI4.non hk5)
              have hck := check_l (some ⟨g3 + 1, 0, none⟩) 2 2 [List.replicate q 0, [0]] x4 hR4
              rw [many_ok hq] at hck
              have HGw : Hid (w.heap.size ≤ g3 + 1) := by
                have h1 := (HK.out.then HK2.out).size
                have h2 := hk3.size
                show _ ≤ _
                omega
              have HIM := hide ((hIM.non hk4).non hk5)
              have HBD := hide hbD
              have HQ := hide hq
              have HG3 := hide hg3
              have HK4 := hide ((hk3.then hk4).then hk5)
              have C3 := hide hck
              clear hq hM hbM hk3 hx3 hIM hI4 hk4 hbD hk5 hR4 hck
              go_wp2_with fail
              try rw [hg3]
              try rw [hx4]
              clear hms hg3 hx4
              refine C3.out.mono ?_
              rintro e x5 ⟨rfl, hk5⟩
              replace HK := hide ((HK.out.then HK2.out).then (HK4.out.then hk5))
              replace HBD := hide (HBD.out.non hk5)
              replace HIM := hide (HIM.out.non hk5)
              clear hk5 C3 HK4 HK2
              obtain ⟨g4, hg4⟩ : ∃ z, x5.heap.size = z := ⟨_, rfl⟩
              have cbD := HBD.out.cell 1
              simp only [List.getElem?_cons_succ, List.getElem?_cons_zero] at cbD
              have fbD := HBD.out.free 1 none
              have lbD := HBD.out.lt
              have lbD2 : g3 + 1 < g4 := by rw [← hg4]; exact lbD
              obtain ⟨vv, hvv⟩ : ∃ z, Value.slice (some ⟨g4, 0, none⟩) 2 2 = z := ⟨_, rfl⟩
              have hk6 := (Keeps.refl Non (x5.setCell ⟨g3 + 1, 1, none⟩ vv)).alloc (.cells #[.int .i64 0, .int .i64 1] 3)
              have hbV := (HBD.out.store 1 vv).keeps hk6 (fun x => x)
              have hiV := ints_laid (x5.setCell ⟨g3 + 1, 1, none⟩ vv) [0, 1] (n := g4) (by rw [← hg4]; simp [World.setCell]) (by simp)
              have hmV := (ints_store HIM.out HBD.out (fun v hv => by
                simp only [List.mem_cons, List.not_mem_nil, or_false] at hv
                rcases hv with rfl | rfl
                · exact ⟨_, _, _, rfl⟩
                · exact ⟨_, _, _, rfl⟩) vv (i := 1)).non hk6
              have hkV := (HK.out.set (b := g3 + 1) (i := 1) (.inr HGw.out) vv).then hk6
              obtain ⟨V, hV⟩ : ∃ z, (x5.setCell ⟨g3 + 1, 1, none⟩ vv).alloc (.cells #[.int .i64 0, .int .i64 1] 3) = z := ⟨_, rfl⟩
              have hiV2 : Ints V (some ⟨g4, 0, none⟩) 2 [0, 1] := by rw [← hV]; exact hiV
              rw [hV] at hbV hmV hkV
              subst hvv
              have hRV := rows2_at V (g3 + 1) _ _ q 2 q 2 (List.replicate q 0) [0, 1] hbV hmV hiV2
              have hck := check_l (some ⟨g3 + 1, 0, none⟩) 2 2 [List.replicate q 0, [0, 1]] V hRV
              rw [many_bad HQ.out] at hck
              have C4 := hide hck
              have HKV := hide hkV
              clear hk6 hbV hiV hmV hkV hiV2 hRV hck HK HBD HIM
              go_wp2_with fail
              try rw [hg4]
              try rw [hV]
              clear hV hg4 cbD fbD lbD lbD2
              refine C4.out.mono ?_
              rintro e x6 ⟨rfl, hk6⟩
              replace HKV := hide (HKV.out.then hk6)
              have C5 := hide (one_l none 0 0 [] 0 x6 ⟨rfl, by omega, .inl rfl⟩ (by omega) (by simp [total]))
              clear hk6 C4
              go_wp2_with fail
              refine C5.out.mono ?_
              rintro e x7 ⟨rfl, hk7⟩
              replace HKV := hide (HKV.out.then hk7)
              have C6 := hide (some_l none none 0 0 0 0 [] [] x7 ⟨rfl, by omega, .inl rfl⟩ (Ints.nil _ _) (by omega) (by simp [total]) (by omega) (by omega))
              clear hk7 C5
              go_wp2_with fail
              refine C6.out.mono ?_
              rintro e x8 ⟨rfl, hk8⟩
              replace HKV := hide (HKV.out.then hk8)
              have hbn := Blk.new x8 [.slice none 0 0] 25
              have hrn : Rows (x8.alloc (.cells #[.slice none 0 0] 25)) (some ⟨x8.heap.size, 0, none⟩) 1 [[]] := ⟨rfl, by omega, .inr ⟨x8.heap.size, 0, rfl, hbn.lt, fun i hi => by
                obtain rfl : i = 0 := by omega
                exact ⟨none, 0, by rw [hbn.cell]; rfl, Ints.nil _ _⟩⟩⟩
              have C7 := hide (some_l (some ⟨x8.heap.size, 0, none⟩) none 1 1 0 0 [[]] [] (x8.alloc (.cells #[.slice none 0 0] 25)) hrn (Ints.nil _ _) (by omega) (by simp [total]) (by omega) (by omega))
              have HKn := hide ((Keeps.refl Non x8).alloc (.cells #[.slice none 0 0] 25))
              clear hk8 C6 hbn hrn
              go_wp2_with fail
              refine C7.out.mono ?_
              rintro e x9 ⟨rfl, hk9⟩
              replace HKV := hide ((HKV.out.then HKn.out).then hk9)
              have HAw := hide (awake_l x9)
              clear hk9 C7 HKn
              go_wp2_with fail
              refine HAw.out.mono ?_
              rintro e y1 ⟨rfl, hk⟩
              go_wp2_with fail
              go_ret
              exact ⟨rfl, HKV.out.then hk⟩
end
end Go.Proofs.Ythpdflpkkiabhaa
