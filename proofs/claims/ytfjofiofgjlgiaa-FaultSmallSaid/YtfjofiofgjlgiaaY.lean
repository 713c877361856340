/-
  Layer 35's runs of steps: the walk over 'Steps'. No condition.
-/
import Derived.Test.YtfjofiofgjlgiaaX
namespace Go.Proofs.Ytfjofiofgjlgiaa
open Go.RowKit
attribute [local go_sem] onto_cell onto_frozen
theorem Tm.info80 : (Try.prog.info? 80).map (fun i => (i.zero, i.size, i.bytes)) = some (some (.agg #[.int .u8 0, .int .i64 0, .int .i64 0]), 3, 24) := by kernel_rfl
/-- The cells of steps. -/
def sc (x : Step3) : List Value := [.int .u8 x.1, .int .i64 x.2.1, .int .i64 x.2.2]
def norm (x : Step3) : Step3 := (x.1 % 6, if x.1 % 6 = 3 then cl x.2.1 else x.2.1, x.2.2)
theorem rows_len (xs : List Step3) : (xs.flatMap sc).length = xs.length * 3 := by
  induction xs with
  | nil => rfl
  | cons x r ih => simp [sc, ih] at *; omega
theorem rows_at (xs : List Step3) (i j : Nat) (hi : i < xs.length) (hj : j < 3) : (xs.flatMap sc)[i * 3 + j]? = (sc (xs.getD i (0, 0, 0)))[j]? := by
  induction xs generalizing i with
  | nil => simp at hi
  | cons x r ih =>
    rw [List.flatMap_cons]
    cases i with
    | zero => rw [List.getElem?_append_left (by simp [sc]; omega)]; simp
    | succ i =>
      rw [List.getElem?_append_right (by simp [sc]; omega)]
      have e : (i + 1) * 3 + j - (sc x).length = i * 3 + j := by simp [sc]; omega
      rw [e, ih i (by simpa using hi)]
      simp
theorem ob_sc (x : Step3) : ∀ v ∈ sc x, v.oneCell' = true := by
  intro v hv
  simp [sc] at hv
  rcases hv with rfl | rfl | rfl <;> rfl
theorem cl_eq (n : Int) : min (max n 0) 3000 = cl n := by unfold cl; (repeat' split) <;> omega
theorem own_geN {w : World} {B e s n : Nat} {v : Value} {xs : List Value} (h : w.ownsRow B e s v n xs) : ∀ k, v.ownBlock = some k → B ≤ k := by
  obtain ⟨_, h2⟩ := h
  rcases h2 with ⟨rfl, rfl⟩ | ⟨g, cap, cur, rfl, hg, _⟩
  · intro k hk; simp [Value.ownBlock] at hk
  · intro k hk
    simp [Value.ownBlock] at hk
    omega
/-- The steps up to k. -/
def nk (xs : List Step3) (k : Nat) : List Value := ((xs.take k).map norm).flatMap sc
theorem nk_succ {xs : List Step3} {k : Nat} (h : k < xs.length) : nk xs (k + 1) = nk xs k ++ sc (norm (xs.getD k (0, 0, 0))) := by
  unfold nk
  rw [List.take_succ_eq_append_getElem h, List.map_append, List.flatMap_append]
  have e : xs.getD k (0, 0, 0) = xs[k] := by rw [List.getD_eq_getElem?_getD, List.getElem?_eq_getElem h]; rfl
  rw [e]
  simp
set_option maxHeartbeats 8000000 in
set_option maxRecDepth 100000 in
theorem steps_row (a : Option Addr) (n cap : Nat) (xs : List Step3) (w : World) (hS : Stp w a n xs) (hn : n ≤ 12) :
    Calls Try.prog 53 #[.slice a n cap] w fun e w' => ∃ v, e = .returned v ∧ w'.ownsRow w.heap.size 80 3 v n (nk xs n) ∧ Keeps Non w w' := by
  obtain ⟨i0, hi, hz0, hz1, hz2⟩ := info_parts Tm.info80
  have HS := hide hS
  have hlen := hide hS.len
  clear hS
  go_enter Try.func53, Try.ntmps53
  go_wp2_with fail
  go_loopw [9, 3] (fun i v wr => ∃ k : Nat, k ≤ n ∧ i = .int .i64 k ∧ wr.ownsRow w.heap.size 80 3 v k (nk xs k) ∧ Keeps Non w wr) (fun i _ _ => n - (intOf i).toNat)
  case atStart => exact ⟨0, Nat.zero_le _, rfl, World.ownsRow_nil _ _ _ _, Keeps.refl _ _⟩
  case round =>
    obtain ⟨k, hk, rfl, hown, hkw⟩ := hrel
    by_cases hlt : k < n
    · obtain ⟨b, off, rfl, hb, hcl⟩ := HS.out.cell.resolve_left (by omega)
      obtain ⟨c0, c1, c2⟩ := hcl k hlt
      have hb2 := Nat.lt_of_lt_of_le hb hkw.size
      have c0 := (hkw.cell (p := ⟨_, _, none⟩) hb id).trans c0
      have c1 := (hkw.cell (p := ⟨_, _, none⟩) hb id).trans c1
      have c2 := (hkw.cell (p := ⟨_, _, none⟩) hb id).trans c2
      obtain ⟨bd1, bd2, bd3⟩ := HS.out.bd k
      have HN := hide (nk_succ (xs := xs) (k := k) (by rw [hlen.out]; exact hlt))
      clear hcl
      generalize xs.getD k (0, 0, 0) = x at *
      obtain ⟨kd, nn, ms⟩ := x
      simp only at c0 c1 c2 bd1 bd2 bd3
      have y0 : (0 : Int) ≤ (k : Int) := by omega
      have y1 : (k : Int) < (n : Int) := by omega
      by_cases h3 : kd % 6 = 3
      · have HE := hide h3
        go_wp2_with (at_builtin; refine wpList_append_own _ rfl _ _ 78 rfl w.heap.size 80 i0 (.agg #[.int .u8 0, .int .i64 0, .int .i64 0]) 3 24 Try.underlying78 hi hz0 hz1 hz2 rfl (by decide) _ _ _ rfl (((hown.alloc _).alloc _).alloc _) ⟨wr.heap.size + 2, 0, none⟩ 1 1 (sc (3, min (max nn 0) 3000, ms)) rfl rfl ?c2 (ob_sc _) ?c4 ?c5 ?c6 ?_)
        case c2 =>
          intro j u hj
          exact hj
        case c4 => unfold maxLen; omega
        case c5 => omega
        case c6 => have := hkw.size; simp; omega
        intro v' w1 hown' hgrow _
        have hown2 : w1.ownsRow w.heap.size 80 3 v' (k + 1) (nk xs (k + 1)) := by
          rw [HN.out]
          have e : norm (kd, nn, ms) = (3, min (max nn 0) 3000, ms) := by simp [norm, HE.out, cl_eq]
          rw [e]
          exact hown'
        have hkw2 := keeps_grown (((hkw.alloc _).alloc _).alloc _) hgrow (fun q hq => .inr (own_geN hown q hq))
        clear hown' hgrow HN
        go_wp2
        go_roundw
        case rel => exact ⟨k + 1, by omega, by go_num, hown2, hkw2⟩
        case measure => simp [intOf]; omega
      · have h3b : (kd % 6 == 3) = false := by simp [h3]
        have HE := hide h3
        clear h3
        go_wp2_with (at_builtin; refine wpList_append_own _ rfl _ _ 78 rfl w.heap.size 80 i0 (.agg #[.int .u8 0, .int .i64 0, .int .i64 0]) 3 24 Try.underlying78 hi hz0 hz1 hz2 rfl (by decide) _ _ _ rfl (((hown.alloc _).alloc _).alloc _) ⟨wr.heap.size + 2, 0, none⟩ 1 1 (sc (kd % 6, nn, ms)) rfl rfl ?c2 (ob_sc _) ?c4 ?c5 ?c6 ?_)
        case c2 =>
          intro j u hj
          exact hj
        case c4 => unfold maxLen; omega
        case c5 => omega
        case c6 => have := hkw.size; simp; omega
        intro v' w1 hown' hgrow _
        have hown2 : w1.ownsRow w.heap.size 80 3 v' (k + 1) (nk xs (k + 1)) := by
          rw [HN.out]
          have e : norm (kd, nn, ms) = (kd % 6, nn, ms) := by simp [norm, HE.out, cl_eq]
          rw [e]
          exact hown'
        have hkw2 := keeps_grown (((hkw.alloc _).alloc _).alloc _) hgrow (fun q hq => .inr (own_geN hown q hq))
        clear hown' hgrow HN
        go_wp2
        go_roundw
        case rel => exact ⟨k + 1, by omega, by go_num, hown2, hkw2⟩
        case measure => simp [intOf]; omega
    · have hkn : k = n := by omega
      subst hkn
      go_wp2_with fail
      go_ret
      exact ⟨_, rfl, hown, hkw⟩
end Go.Proofs.Ytfjofiofgjlgiaa
