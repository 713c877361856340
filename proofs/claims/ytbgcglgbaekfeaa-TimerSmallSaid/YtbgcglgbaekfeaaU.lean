/-
  slices.Insert of one integer into a row that the caller has made. No condition.
-/
import Derived.Test.YtbgcglgbaekfeaaN
import Derived.Shelf.Spec.SlicesInsert
import Derived.Shelf.Spec.SlicesInsertGrow
namespace Go.Proofs.Ytbgcglgbaekfeaa
open Go.RowKit Go.Shelf
def insRen : Ren := { f := fun k => if k = 21 then 24 else if k = 27 then 36 else if k = 28 then 37 else if k = 35 then 41 else 42, t := fun x => x, g := fun x => x }
theorem insLays : Lays2.n21 Try.prog insRen := { mixed := by kernel_rfl, f21 := by kernel_rfl, f27 := by kernel_rfl, f28 := by kernel_rfl, f35 := by kernel_rfl, f39 := by kernel_rfl, t0 := by kernel_rfl, a0 := fun _ => by kernel_rfl, z0 := fun _ => by kernel_rfl, v0 := fun _ => by kernel_rfl, t3 := by kernel_rfl, a3 := fun _ => by kernel_rfl, z3 := fun _ => by kernel_rfl, v3 := fun _ => by kernel_rfl, t4 := by kernel_rfl, a4 := fun _ => by kernel_rfl, z4 := fun _ => by kernel_rfl, v4 := fun _ => by kernel_rfl, t22 := by kernel_rfl, a22 := fun _ => by kernel_rfl, z22 := fun _ => by kernel_rfl, v22 := fun _ => by kernel_rfl, i3 := by kernel_rfl }
theorem Keeps.setCells {S : Nat → Prop} {a : World} {b : Nat} (hb : S b ∨ a.heap.size ≤ b) : ∀ (vs : List Value) (o : Nat) (w : World), Keeps S a w → Keeps S a (w.setCells b o vs)
  | [], _, _, h => h
  | v :: r, o, _, h => Keeps.setCells hb r (o + 1) _ (h.set hb v)
/-- A list with x put in at k. -/
def insL (ys : List Int) (k : Nat) (x : Int) : List Int := ys.take k ++ x :: ys.drop k
theorem insL_len {ys : List Int} {k : Nat} {x : Int} (h : k ≤ ys.length) : (insL ys k x).length = ys.length + 1 := by
  simp [insL]; omega
theorem insL_lt {ys : List Int} {k j : Nat} {x : Int} (h : j < k) (hk : k ≤ ys.length) : (insL ys k x).getD j 0 = ys.getD j 0 := by
  unfold insL
  rw [List.getD_eq_getElem?_getD, List.getD_eq_getElem?_getD, List.getElem?_append_left (by simp; omega), List.getElem?_take, if_pos h]
theorem insL_eq {ys : List Int} {k : Nat} {x : Int} (hk : k ≤ ys.length) : (insL ys k x).getD k 0 = x := by
  unfold insL
  rw [List.getD_eq_getElem?_getD, List.getElem?_append_right (by simp; omega)]
  simp [Nat.min_eq_left hk]
theorem insL_gt {ys : List Int} {k j : Nat} {x : Int} (h : k < j) (hk : k ≤ ys.length) : (insL ys k x).getD j 0 = ys.getD (j - 1) 0 := by
  unfold insL
  rw [List.getD_eq_getElem?_getD, List.getD_eq_getElem?_getD, List.getElem?_append_right (by simp; omega)]
  have e : j - (ys.take k).length = (j - 1 - k) + 1 := by simp [Nat.min_eq_left hk]; omega
  rw [e, List.getElem?_cons_succ, List.getElem?_drop]
  congr 2
  omega
theorem vals_at {ys : List Int} {j : Nat} (h : j < ys.length) : (ys.map (Value.int .i64))[j]? = some (.int .i64 (ys.getD j 0)) := by
  rw [List.getElem?_map, List.getElem?_eq_getElem h, List.getD_eq_getElem?_getD, List.getElem?_eq_getElem h]
  rfl
theorem one_vals {ys : List Int} : ∀ v ∈ ys.map (Value.int .i64), v.oneCell' = true := by
  intro v hv
  obtain ⟨x, _, rfl⟩ := List.mem_map.1 hv
  rfl
theorem ints_cells {w : World} {b n : Nat} {xs : List Int} (hl : xs.length = n) (hb : b < w.heap.size) (hn : n ≤ 17592186044416) (h : ∀ i, i < n → w.cell? ⟨b, i, none⟩ = some (.int .i64 (xs.getD i 0))) : Ints w (some ⟨b, 0, none⟩) n xs :=
  ⟨hl, hn, .inr ⟨b, 0, rfl, hb, fun i hi => by simpa using h i hi⟩⟩
/-- The cells behind both copies. -/
theorem shifted {w : World} {b n k : Nat} {ys : List Int} {x : Int} (hl : ys.length = n) (hk : k ≤ n)
    (hc : ∀ i, i < n → w.cell? ⟨b, i, none⟩ = some (.int .i64 (ys.getD i 0))) (hs : ∀ i, i < n + 1 → (w.cell? ⟨b, i, none⟩).isSome = true) :
    ∀ i, i < n + 1 → ((w.setCells b (k + 1) ((ys.map (Value.int .i64)).drop k)).setCells b k [Value.int .i64 x]).cell? ⟨b, i, none⟩ = some (.int .i64 ((insL ys k x).getD i 0)) := by
  intro i hi
  have hs1 : ∀ i, i < n + 1 → ((w.setCells b (k + 1) ((ys.map (Value.int .i64)).drop k)).cell? ⟨b, i, none⟩).isSome = true := fun i hi =>
    isSome_setCells b _ _ w (fun j hj => hs _ (by simp at hj; omega)) i (hs i hi)
  rcases Nat.lt_trichotomy i k with h | h | h
  · rw [World.cell?_setCells_out b _ _ _ _ (fun _ _ => .inl h), World.cell?_setCells_out b _ _ _ _ (fun _ _ => .inl (by show i < k + 1; omega)), insL_lt h (by omega)]
    exact hc i (by omega)
  · subst h
    have := World.cell?_setCells_in b [Value.int .i64 x] i (w.setCells b (i + 1) ((ys.map (Value.int .i64)).drop i)) (fun j hj => by
      simp at hj
      subst hj
      exact hs1 i hi) 0 (by simp)
    rw [insL_eq (by omega)]
    simpa using this
  · rw [World.cell?_setCells_out b _ _ _ _ (fun _ _ => .inr (by show k + 1 ≤ i; omega)), insL_gt h (by omega)]
    have := World.cell?_setCells_in b ((ys.map (Value.int .i64)).drop k) (k + 1) w (fun j hj => hs _ (by simp at hj; omega)) (i - (k + 1)) (by simp; omega)
    rw [show k + 1 + (i - (k + 1)) = i by omega] at this
    rw [this]
    congr 1
    rw [List.getElem_drop, List.getElem_map, List.getD_eq_getElem?_getD, List.getElem?_eq_getElem (by omega)]
    congr 1
    have : k + (i - (k + 1)) = i - 1 := by omega
    simp [this]
theorem shifted2 {w : World} {b n k : Nat} {ys : List Int} {x : Int} (hl : ys.length = n) (hk : k ≤ n)
    (hc : ∀ i, i < k → w.cell? ⟨b, i, none⟩ = some (.int .i64 (ys.getD i 0))) (hs : ∀ i, i < n + 1 → (w.cell? ⟨b, i, none⟩).isSome = true) :
    ∀ i, i < n + 1 → ((w.setCells b k [Value.int .i64 x]).setCells b (k + 1) ((ys.map (Value.int .i64)).drop k)).cell? ⟨b, i, none⟩ = some (.int .i64 ((insL ys k x).getD i 0)) := by
  intro i hi
  have hs1 : ∀ i, i < n + 1 → ((w.setCells b k [Value.int .i64 x]).cell? ⟨b, i, none⟩).isSome = true := fun i hi =>
    isSome_setCells b _ _ w (fun j hj => hs _ (by simp at hj; omega)) i (hs i hi)
  rcases Nat.lt_trichotomy i k with h | h | h
  · rw [World.cell?_setCells_out b _ _ _ _ (fun _ _ => .inl (by show i < k + 1; omega)), World.cell?_setCells_out b _ _ _ _ (fun _ _ => .inl h), insL_lt h (by omega)]
    exact hc i h
  · subst h
    rw [World.cell?_setCells_out b _ _ _ _ (fun _ _ => .inl (by show i < i + 1; omega)), insL_eq (by omega)]
    have := World.cell?_setCells_in b [Value.int .i64 x] i w (fun j hj => by
      simp at hj
      subst hj
      exact hs i hi) 0 (by simp)
    simpa using this
  · rw [insL_gt h (by omega)]
    have := World.cell?_setCells_in b ((ys.map (Value.int .i64)).drop k) (k + 1) (w.setCells b k [Value.int .i64 x]) (fun j hj => hs1 _ (by simp at hj; omega)) (i - (k + 1)) (by simp; omega)
    rw [show k + 1 + (i - (k + 1)) = i by omega] at this
    rw [this]
    congr 1
    rw [List.getElem_drop, List.getElem_map, List.getD_eq_getElem?_getD, List.getElem?_eq_getElem (by omega)]
    congr 1
    have : k + (i - (k + 1)) = i - 1 := by omega
    simp [this]
theorem new_cell (w : World) (A : Array Value) (t : TypeId) (i : Nat) : (w.alloc (.cells A t)).cell? ⟨w.heap.size, i, none⟩ = A[i]? := by
  exact (Blk.new w A.toList t).cell i |>.trans (by simp)
theorem insL_end {ys : List Int} {x : Int} {k : Nat} (h : ys.length = k) : insL ys k x = ys ++ [x] := by
  subst h
  simp [insL]
theorem insert_any (g vb n k : Nat) (cap : Nat) (cur : Array Value) (ys : List Int) (x : Int) (w : World) (hl : ys.length = n) (hn0 : 0 < n) (hn : n ≤ 1000) (hk : k ≤ n)
    (hh : w.heap[g]? = some (.cells cur 3 (0, 0))) (hnc : n ≤ cap) (hcm : cap ≤ 9223372036854775807) (hsz : cur.size = cap) (htk : cur.toList.take n = ys.map (Value.int .i64))
    (hv : Blk w vb [.int .i64 x] 3) (hvb : vb ≠ g) :
    Calls Try.prog 24 #[.slice (some ⟨g, 0, none⟩) n cap, .int .i64 k, .slice (some ⟨vb, 0, none⟩) 1 1] w fun e w' => ∃ a' c', e = .returned (.slice a' (n + 1) c') ∧ Ints w' a' (n + 1) (insL ys k x) ∧ Keeps (· = g) w w' := by
  have hg : g < w.heap.size := (Array.getElem?_eq_some_iff.1 hh).1
  have hcur : ∀ i, w.cell? ⟨g, i, none⟩ = cur[i]? := fun i => by simp [World.cell?, hh]
  have hfz : ∀ i s, w.frozen? ⟨g, i, s⟩ = false := fun i s => by simp [World.frozen?, hh]
  have hc : ∀ i, i < n → w.cell? ⟨g, i, none⟩ = some (.int .i64 (ys.getD i 0)) := fun i hi => by
    have e2 : cur[i]? = (ys.map (Value.int .i64))[i]? := by
      rw [← htk, List.getElem?_take, if_pos hi]
      simp
    rw [hcur, e2, vals_at (by omega)]
  have hcs : ∀ j v, (ys.map (Value.int .i64))[j]? = some v → w.cell? ⟨g, 0 + j, none⟩ = some v := fun j v hj => by
    have hjn : j < ys.length := by have := (List.getElem?_eq_some_iff.1 hj).1; simpa using this
    rw [Nat.zero_add, hc j (by omega), ← hj, vals_at hjn]
  have hvs : ∀ j v, [Value.int .i64 x][j]? = some v → w.cell? ⟨vb, 0 + j, none⟩ = some v := fun j v hj => by
    rw [Nat.zero_add, hv.cell, hj]
  have h1v : ∀ v ∈ [Value.int .i64 x], v.oneCell' = true := by intro v hv; simp at hv; subst hv; rfl
  have hS : ∀ (vs : List Value) (o : Nat) (u : World), Keeps (· = g) w u → Keeps (· = g) w (u.setCells g o vs) := fun vs o u h => Keeps.setCells (S := (· = g)) (b := g) (.inl rfl) vs o u h
  have hlen2 := insL_len (x := x) (show k ≤ ys.length by omega)
  by_cases hroom : n + 1 ≤ cap
  · have hs : ∀ i, i < n + 1 → (w.cell? ⟨g, i, none⟩).isSome = true := fun i hi => by rw [hcur, Array.getElem?_eq_getElem (by omega)]; rfl
    by_cases hkn : k < n
    · have hsa : w.shape? vb = some (3, 1) := by have := hv; unfold Blk at this; simp [World.shape?, this]
      have hsb : w.shape? g = some (3, cap) := by simp [World.shape?, hh, hsz]
      refine (Any2.slices_Insert_int_shift insLays g 0 n cap k vb 0 1 1 (ys.map (Value.int .i64)) [.int .i64 x] w hkn (by omega) hroom hcm hvb (by simpa using hl) rfl hcs (fun j hj => by rw [Nat.zero_add]; exact hs j hj) (fun j _ => hfz _ _) hvs one_vals h1v 3 3 1 cap hsa hsb (by omega) (hv.free _ _) (hv.free _ _)).mono ?_
      rintro e w' ⟨rfl, rfl⟩
      rw [Nat.zero_add, Nat.zero_add]
      refine ⟨_, _, rfl, ints_cells (by omega) ?_ (by omega) (shifted hl hk hc hs), ?_⟩
      · have := (hS [Value.int .i64 x] k _ (hS ((ys.map (Value.int .i64)).drop k) (k + 1) _ (Keeps.refl _ w).drew)).size
        omega
      · exact hS _ _ _ (hS _ _ _ (Keeps.refl _ w).drew)
    · obtain rfl : k = n := by omega
      refine (Any2.slices_Insert_int_end_room insLays g 0 k cap vb 0 1 1 [.int .i64 x] w (by omega) hroom hcm rfl (fun j hj => by rw [Nat.zero_add]; exact hs _ (by omega)) (fun j _ => hfz _ _) hvs h1v).mono ?_
      rintro e w' ⟨rfl, rfl⟩
      rw [Nat.zero_add]
      have hK : Keeps (· = g) w (w.setCells g k [Value.int .i64 x]) := hS _ _ _ (Keeps.refl _ w)
      have := shifted (x := x) hl hk hc hs
      rw [show (ys.map (Value.int .i64)).drop k = [] by rw [List.drop_eq_nil_iff]; simp; omega] at this
      exact ⟨_, _, rfl, ints_cells (by omega) (by have := hK.size; omega) (by omega) this, hK⟩
  · have hcap : cap = n := by omega
    subst hcap
    by_cases hkn : k < cap
    · refine (Any2.slices_Insert_int_grow insLays g 0 cap cap k vb 0 1 1 (ys.map (Value.int .i64)) [.int .i64 x] w hkn (by omega) (by omega) (by omega) (by omega) (by simpa using hl) rfl hcs hvs one_vals h1v).mono ?_
      rintro e w' ⟨rfl, rfl⟩
      have hge := grownCap_ge w (cap + 1) cap (insRen.t 3)
      generalize grownCap w (cap + 1) cap (insRen.t 3) = gc at hge ⊢
      have hS2 : ∀ (vs : List Value) (o : Nat) (u : World), Keeps (· = g) w u → Keeps (· = g) w (u.setCells w.heap.size o vs) := fun vs o u h => Keeps.setCells (.inr (Nat.le_refl _)) vs o u h
      rw [drew_setCells]
      generalize hA : ((ys.map (Value.int .i64)).take k).toArray ++ Builtin.zeroCells (Value.int .i64 0).cells (cap + 1 - k) ++ Builtin.zeroCells (Value.int .i64 0).cells (gc - (cap + 1)) = A
      have hAs : A.size = gc := by
        rw [← hA]
        simp [size_zeroCells, Value.cells]
        omega
      have hAk : ∀ i, i < k → A[i]? = some (.int .i64 (ys.getD i 0)) := fun i hi => by
        rw [← hA, Array.append_assoc, Array.getElem?_append_left (by simp; omega), List.getElem?_toArray, List.getElem?_take, if_pos hi, vals_at (by omega)]
      have hN := new_cell w A 3
      have hK : Keeps (· = g) w (((w.alloc (.cells A 3)).drew.drew.setCells w.heap.size k [Value.int .i64 x]).setCells w.heap.size (k + 1) ((ys.map (Value.int .i64)).drop k)) := hS2 _ _ _ (hS2 _ _ _ ((Keeps.refl _ w).alloc _).drew.drew)
      have hsh := shifted2 (w := (w.alloc (.cells A 3)).drew.drew) (b := w.heap.size) (x := x) hl hk (fun i hi => (hN i).trans (hAk i hi)) (fun i hi => by
        rw [show ((w.alloc (.cells A 3)).drew.drew.cell? ⟨w.heap.size, i, none⟩) = A[i]? from hN i, Array.getElem?_eq_getElem (by omega)]
        rfl)
      refine ⟨_, _, rfl, ints_cells (by omega) ?_ (by omega) hsh, hK⟩
      have e1 := (Keeps.setCells (S := fun _ => True) (a := w.alloc (.cells A 3)) (b := w.heap.size) (.inl trivial) ((ys.map (Value.int .i64)).drop k) (k + 1) _ (Keeps.setCells (S := fun _ => True) (b := w.heap.size) (.inl trivial) [Value.int .i64 x] k _ (Keeps.refl (fun _ => True) (w.alloc (.cells A 3))).drew.drew)).size
      simp only [World.size_alloc] at e1
      exact Nat.lt_of_succ_le e1
    · obtain rfl : k = cap := by omega
      refine (Any2.slices_Insert_int_end_grow insLays (some ⟨g, 0, none⟩) k k vb 0 1 1 (ys.map (Value.int .i64)) [.int .i64 x] w (by omega) (by omega) (by omega) (by omega) (by simpa using hl) rfl (by intro h; cases h) (fun a ha j v hj => by cases ha; rw [Addr.add_lit]; exact hcs j v hj) hvs h1v).mono ?_
      rintro e w' ⟨rfl, rfl⟩
      have hge := grownCap_ge w (k + 1) k (insRen.t 3)
      generalize grownCap w (k + 1) k (insRen.t 3) = gc at hge ⊢
      generalize hA : (ys.map (Value.int .i64) ++ [Value.int .i64 x]).toArray ++ Builtin.zeroCells (Value.int .i64 0).cells (gc - (k + 1)) = A
      have hAk : ∀ i, i < k + 1 → A[i]? = some (.int .i64 ((insL ys k x).getD i 0)) := fun i hi => by
        have e : ys.map (Value.int .i64) ++ [Value.int .i64 x] = (insL ys k x).map (Value.int .i64) := by rw [insL_end hl]; simp
        rw [← hA, Array.getElem?_append_left (by simp; omega), List.getElem?_toArray, e, vals_at (by omega)]
      exact ⟨_, _, rfl, ints_cells (by omega) (by show w.heap.size < (w.drew.alloc _).heap.size; simp) (by omega) (fun i hi => (new_cell w.drew A 3 i).trans (hAk i hi)), ((Keeps.refl _ w).drew).alloc _⟩
end Go.Proofs.Ytbgcglgbaekfeaa
