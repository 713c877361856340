/-
  Layer 35's runs of steps: the walk over the reference's 'Do'. No condition.
-/
import Derived.Test.YtfjofiofgjlgiaaY
import Derived.RegionTactic
namespace Go.Proofs.Ytfjofiofgjlgiaa
open Go.RowKit
attribute [local go_sem] onto_cell onto_frozen
/-- The reference's steps at a, n of them: F. -/
structure RSt (w : World) (a : Option Addr) (n B : Nat) (F : Nat → Step3) : Prop where
  cell : n = 0 ∨ ∃ g, a = some ⟨g, 0, none⟩ ∧ B ≤ g ∧ g < w.heap.size ∧ ∀ i, i < n → w.cell? ⟨g, i * 3, none⟩ = some (.int .u8 (F i).1) ∧ w.cell? ⟨g, i * 3 + 1, none⟩ = some (.int .i64 (F i).2.1) ∧ w.cell? ⟨g, i * 3 + 2, none⟩ = some (.int .i64 (F i).2.2) ∧ w.frozen? ⟨g, i * 3 + 1, none⟩ = false
theorem RSt.non {w w' : World} {a : Option Addr} {n B : Nat} {F : Nat → Step3} (h : RSt w a n B F) (k : Keeps Non w w') : RSt w' a n B F :=
  ⟨h.cell.imp id fun ⟨g, ha, hB, hb, hc⟩ => ⟨g, ha, hB, Nat.lt_of_lt_of_le hb k.size, fun i hi =>
    ⟨(k.cell (p := ⟨g, i * 3, none⟩) hb id).trans (hc i hi).1, (k.cell (p := ⟨g, i * 3 + 1, none⟩) hb id).trans (hc i hi).2.1, (k.cell (p := ⟨g, i * 3 + 2, none⟩) hb id).trans (hc i hi).2.2.1, (k.frozen (p := ⟨g, i * 3 + 1, none⟩) hb id).trans (hc i hi).2.2.2⟩⟩⟩
theorem nk_at {xs : List Step3} {n i j : Nat} (hl : xs.length = n) (hi : i < n) (hj : j < 3) : (nk xs n)[i * 3 + j]? = (sc (norm (xs.getD i (0, 0, 0))))[j]? := by
  unfold nk
  rw [rows_at _ i j (by simp; omega) hj, List.take_of_length_le (by omega)]
  congr 2
  rw [List.getD_eq_getElem?_getD, List.getD_eq_getElem?_getD, List.getElem?_map, List.getElem?_eq_getElem (by omega)]
  rfl
theorem steps_any (a : Option Addr) (n cap : Nat) (xs : List Step3) (w : World) (hS : Stp w a n xs) (hn : n ≤ 12) :
    Calls Try.prog 53 #[.slice a n cap] w fun e w' => ∃ a' c', e = .returned (.slice a' n c') ∧ RSt w' a' n w.heap.size (fun i => norm (xs.getD i (0, 0, 0))) ∧ Keeps Non w w' := by
  refine (steps_row a n cap xs w hS hn).mono ?_
  rintro e w' ⟨v, rfl, ⟨hl, h2⟩, hk⟩
  rcases h2 with ⟨rfl, rfl⟩ | ⟨g, c, cur, rfl, hg, hh, hnc, hcm, hsz, htk⟩
  · exact ⟨none, 0, rfl, ⟨.inl rfl⟩, hk⟩
  · refine ⟨_, _, rfl, ⟨.inr ⟨g, rfl, hg, (Array.getElem?_eq_some_iff.1 hh).1, fun i hi => ?_⟩⟩, hk⟩
    have hc : ∀ j, j < 3 → w'.cell? ⟨g, i * 3 + j, none⟩ = (sc (norm (xs.getD i (0, 0, 0))))[j]? := fun j hj => by
      have e1 : w'.cell? ⟨g, i * 3 + j, none⟩ = cur[i * 3 + j]? := by simp [World.cell?, hh]
      rw [e1, ← nk_at hS.len hi hj, ← htk, List.getElem?_take, if_pos (by omega)]
      simp
    exact ⟨hc 0 (by omega), hc 1 (by omega), hc 2 (by omega), by simp [World.frozen?, hh]⟩
theorem blk_set {w : World} {b i : Nat} {xs ys : List Value} {t : TypeId} {v : Value} (h : Blk w b xs t) (e : xs.set i v = ys) : Blk (w.setCell ⟨b, i, none⟩ v) b ys t := e ▸ h.store i v
def fix4 (y : Step3) : Step3 := (y.1, if y.1 = 4 then y.2.1 % 256 else y.2.1, y.2.2)
/-- What the reference's Do returns. -/
def refK (k : Int) : Int := if k = 8 then 9 else k
def refV (f : Int) (r : Int × Int × Int × Int × Int) : Value := .agg #[.int .i64 f, .int .i64 r.1, .int .i64 r.2.1, .int .i64 r.2.2.1, .int .i64 (refK r.2.2.2.1), .int .i64 r.2.2.2.2]
set_option maxHeartbeats 20000000 in
set_option maxRecDepth 100000 in
theorem rdo_any (a : Option Addr) (n cap B : Nat) (xs : List Step3) (f l u d0 k0 m0 : Int) (w : World) (hS : RSt w a n B (fun i => fix4 (norm (xs.getD i (0, 0, 0))))) (hlen0 : xs.length = n) (hn : n ≤ 12) (hbd : ∀ i, 0 ≤ (xs.getD i (0, 0, 0)).1 ∧ (xs.getD i (0, 0, 0)).1 ≤ 255 ∧ (xs.getD i (0, 0, 0)).2.1 ≤ 9223372036854775807)
    (hl0 : 0 ≤ l) (hlf : l ≤ f) (hf : f ≤ 1048576) (hu0 : 0 ≤ u) (hu1 : u ≤ 1000000000000) :
    Calls Try.prog 54 #[.agg #[.int .i64 f, .int .i64 l, .int .i64 u, .int .i64 d0, .int .i64 k0, .int .i64 m0], .slice a n cap] w fun e w' =>
      e = .returned (refV f (runS f xs l u 0)) ∧ Keeps Non w w' := by
  have HS := hide hS
  have hlen := hide hlen0
  have HBD := hide hbd
  clear hS hlen0 hbd
  obtain ⟨V, hV⟩ : ∃ V, refV f (runS f xs l u 0) = V := ⟨_, rfl⟩
  rw [hV]
  have HV := hide hV
  clear hV
  go_enter Try.func54, Try.ntmps54
  go_wp2_with fail
  have hB0 := hide (Blk.alloc (Blk.new w [.int .i64 f, .int .i64 l, .int .i64 u, .int .i64 0, .int .i64 0, .int .i64 0] 77) (.cells #[.int .i64 0, .int .i64 0, .int .i64 0, .int .i64 0, .int .i64 0, .int .i64 0] 77))
  have hR0 := hide (Blk.newAt (n := w.heap.size + 1) (w.alloc (.cells #[.int .i64 f, .int .i64 l, .int .i64 u, .int .i64 0, .int .i64 0, .int .i64 0] 77)) [.int .i64 0, .int .i64 0, .int .i64 0, .int .i64 0, .int .i64 0, .int .i64 0] 77 (by simp))
  have hK0 := hide (((Keeps.refl Non w).alloc (.cells #[.int .i64 f, .int .i64 l, .int .i64 u, .int .i64 0, .int .i64 0, .int .i64 0] 77)).alloc (.cells #[.int .i64 0, .int .i64 0, .int .i64 0, .int .i64 0, .int .i64 0, .int .i64 0] 77))
  go_loopw [5] (fun i wr => ∃ (k : Nat) (l1 u1 : Int), k ≤ n ∧ i = .int .i64 k ∧ 0 ≤ l1 ∧ l1 ≤ f ∧ 0 ≤ u1 ∧ u1 ≤ 1000000000000 + 1048576 * k ∧ Hid (Blk wr w.heap.size [.int .i64 f, .int .i64 l1, .int .i64 u1, .int .i64 k, .int .i64 0, .int .i64 0] 77) ∧ Hid (Blk wr (w.heap.size + 1) [.int .i64 0, .int .i64 0, .int .i64 0, .int .i64 0, .int .i64 0, .int .i64 0] 77) ∧ Hid (Keeps Non w wr) ∧ Hid (runS f xs l u 0 = runS f (xs.drop k) l1 u1 k)) (fun i _ => n - (intOf i).toNat)
  case atStart => exact ⟨0, l, u, by omega, rfl, hl0, hlf, hu0, by omega, hB0.out, hR0.out, hK0.out, by rw [List.drop_zero]; rfl⟩
  case round =>
    obtain ⟨k, l1, u1, hk, rfl, hl0, hlf, hu0, hu1, hB, hRB, hK, hR⟩ := hrel
    have s0 := hB.out.cell 0
    have s1 := hB.out.cell 1
    have s2 := hB.out.cell 2
    have s3 := hB.out.cell 3
    have s4 := hB.out.cell 4
    have s5 := hB.out.cell 5
    have e0 := hB.out.free 0 none
    have e1 := hB.out.free 1 none
    have e2 := hB.out.free 2 none
    have e3 := hB.out.free 3 none
    have e4 := hB.out.free 4 none
    have e5 := hB.out.free 5 none
    have r0 := hRB.out.cell 0
    have r1 := hRB.out.cell 1
    have r2 := hRB.out.cell 2
    have r3 := hRB.out.cell 3
    have r4 := hRB.out.cell 4
    have r5 := hRB.out.cell 5
    have t0 := hRB.out.free 0 none
    have t1 := hRB.out.free 1 none
    have t2 := hRB.out.free 2 none
    have t3 := hRB.out.free 3 none
    have t4 := hRB.out.free 4 none
    have t5 := hRB.out.free 5 none
    have lB := Blk.lt hB.out
    have lR := Blk.lt hRB.out
    simp only [List.getElem?_cons_zero, List.getElem?_cons_succ] at s0 s1 s2 s3 s4 s5 r0 r1 r2 r3 r4 r5
    by_cases hlt : k < n
    · obtain ⟨g, rfl, hgB, hb, hcl⟩ := HS.out.cell.resolve_left (by omega)
      obtain ⟨c0, c1, c2, -⟩ := hcl k hlt
      have hb2 := Nat.lt_of_lt_of_le hb hK.out.size
      have c0 := (hK.out.cell (p := ⟨_, _, none⟩) hb id).trans c0
      have c1 := (hK.out.cell (p := ⟨_, _, none⟩) hb id).trans c1
      have c2 := (hK.out.cell (p := ⟨_, _, none⟩) hb id).trans c2
      obtain ⟨bd1, bd2, bd3⟩ := HBD.out k
      have hO := hide (fun l2 u2 (h : oneS f l1 u1 (xs.getD k (0, 0, 0)) = (l2, u2, 0, 0)) => run_step hlen.out hlt hR.out h)
      have hP := hide (fun l2 u2 c m (h : oneS f l1 u1 (xs.getD k (0, 0, 0)) = (l2, u2, c, m)) (hc : c ≠ 0) => run_stop hlen.out hlt hR.out h hc)
      clear hcl
      generalize xs.getD k (0, 0, 0) = x at *
      obtain ⟨kd, nn, ms⟩ := x
      simp only [fix4, norm] at c0 c1 c2 bd1 bd2 bd3
      have y0 : (0 : Int) ≤ (k : Int) := by omega
      have y1 : (k : Int) < (n : Int) := by omega
      have h6 : kd % 6 = 0 ∨ kd % 6 = 1 ∨ kd % 6 = 2 ∨ kd % 6 = 3 ∨ kd % 6 = 4 ∨ kd % 6 = 5 := by omega
      rcases h6 with h6 | h6 | h6 | h6 | h6 | h6
      · simp only [h6, Int.reduceEq, ↓reduceIte] at c0 c1
        have h6b := hide h6
        clear h6
        have HQ : Hid (oneS f l1 u1 (kd, nn, ms) = (l1, u1, 0, 0)) := by simp [Hid, oneS, h6b.out]
        go_wp2
        go_roundw
        case rel => exact ⟨k + 1, l1, u1, by omega, by go_num, by omega, by omega, by omega, by omega, by ((repeat (first | with_reducible refine hide ?_ | with_reducible exact hB.out | with_reducible exact hRB.out | with_reducible refine Blk.alloc ?_ _ | with_reducible refine Blk.drew ?_ | with_reducible apply blk_set | with_reducible refine Blk.other ?_ ?_ _)); all_goals (first | exact rfl | simp)), by ((repeat (first | with_reducible refine hide ?_ | with_reducible exact hB.out | with_reducible exact hRB.out | with_reducible refine Blk.alloc ?_ _ | with_reducible refine Blk.drew ?_ | with_reducible apply blk_set | with_reducible refine Blk.other ?_ ?_ _)); all_goals (first | exact rfl | simp)), by ((repeat (first | with_reducible refine hide ?_ | with_reducible exact hK.out | with_reducible refine Keeps.alloc ?_ _ | with_reducible refine Keeps.drew ?_ | with_reducible refine Keeps.set ?_ (.inr ?_) _)); all_goals (first | exact Nat.le_refl _ | omega)), hO.out _ _ HQ.out⟩
        case measure => simp [intOf]; omega
      · simp only [h6, Int.reduceEq, ↓reduceIte] at c0 c1
        have h6b := hide h6
        clear h6
        by_cases g1 : l1 < nn
        · have HF := hide (hP.out l1 u1 1 nn (by simp [oneS, h6b.out, g1]) (by omega))
          go_wp2
          go_region
          all_goals
            go_wp2
            have e : V = .agg #[.int .i64 f, .int .i64 l1, .int .i64 u1, .int .i64 (k : Int), .int .i64 1, .int .i64 nn] := by rw [← HV.out, HF.out]; rfl
            refine bodyPost_ret (v := .agg #[.int .i64 f, .int .i64 l1, .int .i64 u1, .int .i64 (k : Int), .int .i64 1, .int .i64 nn]) ?_ rfl ⟨by rw [e], ?_⟩
            · simp [results, Try.results54, go_sem, r0, r1, r2, r3, r4, r5, lR]
            · ((repeat (first | with_reducible refine hide ?_ | with_reducible exact hK.out | with_reducible refine Keeps.alloc ?_ _ | with_reducible refine Keeps.drew ?_ | with_reducible refine Keeps.set ?_ (.inr ?_) _)); all_goals (first | exact Nat.le_refl _ | omega))
        · by_cases g2 : 0 < nn
          · have HQ : Hid (oneS f l1 u1 (kd, nn, ms) = (l1 - nn, u1 + nn, 0, 0)) := by simp [Hid, oneS, h6b.out, g1, g2]
            go_wp2
            go_region
            all_goals
              go_wp2
              go_roundw
              case rel => exact ⟨k + 1, (l1 - nn), (u1 + nn), by omega, by go_num, by omega, by omega, by omega, by omega, by ((repeat (first | with_reducible refine hide ?_ | with_reducible exact hB.out | with_reducible exact hRB.out | with_reducible refine Blk.alloc ?_ _ | with_reducible refine Blk.drew ?_ | with_reducible apply blk_set | with_reducible refine Blk.other ?_ ?_ _)); all_goals (first | exact rfl | simp)), by ((repeat (first | with_reducible refine hide ?_ | with_reducible exact hB.out | with_reducible exact hRB.out | with_reducible refine Blk.alloc ?_ _ | with_reducible refine Blk.drew ?_ | with_reducible apply blk_set | with_reducible refine Blk.other ?_ ?_ _)); all_goals (first | exact rfl | simp)), by ((repeat (first | with_reducible refine hide ?_ | with_reducible exact hK.out | with_reducible refine Keeps.alloc ?_ _ | with_reducible refine Keeps.drew ?_ | with_reducible refine Keeps.set ?_ (.inr ?_) _)); all_goals (first | exact Nat.le_refl _ | omega)), hO.out _ _ HQ.out⟩
              case measure => simp [intOf]; omega
          · have HQ : Hid (oneS f l1 u1 (kd, nn, ms) = (l1, u1, 0, 0)) := by simp [Hid, oneS, h6b.out, g1, g2]
            go_wp2
            go_roundw
            case rel => exact ⟨k + 1, l1, u1, by omega, by go_num, by omega, by omega, by omega, by omega, by ((repeat (first | with_reducible refine hide ?_ | with_reducible exact hB.out | with_reducible exact hRB.out | with_reducible refine Blk.alloc ?_ _ | with_reducible refine Blk.drew ?_ | with_reducible apply blk_set | with_reducible refine Blk.other ?_ ?_ _)); all_goals (first | exact rfl | simp)), by ((repeat (first | with_reducible refine hide ?_ | with_reducible exact hB.out | with_reducible exact hRB.out | with_reducible refine Blk.alloc ?_ _ | with_reducible refine Blk.drew ?_ | with_reducible apply blk_set | with_reducible refine Blk.other ?_ ?_ _)); all_goals (first | exact rfl | simp)), by ((repeat (first | with_reducible refine hide ?_ | with_reducible exact hK.out | with_reducible refine Keeps.alloc ?_ _ | with_reducible refine Keeps.drew ?_ | with_reducible refine Keeps.set ?_ (.inr ?_) _)); all_goals (first | exact Nat.le_refl _ | omega)), hO.out _ _ HQ.out⟩
            case measure => simp [intOf]; omega
      · simp only [h6, Int.reduceEq, ↓reduceIte] at c0 c1
        have h6b := hide h6
        clear h6
        have HQ : Hid (oneS f l1 u1 (kd, nn, ms) = (f, u1, 0, 0)) := by simp [Hid, oneS, h6b.out]
        go_wp2
        go_roundw
        case rel => exact ⟨k + 1, f, u1, by omega, by go_num, by omega, by omega, by omega, by omega, by ((repeat (first | with_reducible refine hide ?_ | with_reducible exact hB.out | with_reducible exact hRB.out | with_reducible refine Blk.alloc ?_ _ | with_reducible refine Blk.drew ?_ | with_reducible apply blk_set | with_reducible refine Blk.other ?_ ?_ _)); all_goals (first | exact rfl | simp)), by ((repeat (first | with_reducible refine hide ?_ | with_reducible exact hB.out | with_reducible exact hRB.out | with_reducible refine Blk.alloc ?_ _ | with_reducible refine Blk.drew ?_ | with_reducible apply blk_set | with_reducible refine Blk.other ?_ ?_ _)); all_goals (first | exact rfl | simp)), by ((repeat (first | with_reducible refine hide ?_ | with_reducible exact hK.out | with_reducible refine Keeps.alloc ?_ _ | with_reducible refine Keeps.drew ?_ | with_reducible refine Keeps.set ?_ (.inr ?_) _)); all_goals (first | exact Nat.le_refl _ | omega)), hO.out _ _ HQ.out⟩
        case measure => simp [intOf]; omega
      · simp only [h6, Int.reduceEq, ↓reduceIte] at c0 c1
        have h6b := hide h6
        clear h6
        have hcb := cl_bd nn
        obtain ⟨q0, q1⟩ := hcb
        obtain ⟨C, hC⟩ : ∃ C, cl nn = C := ⟨_, rfl⟩
        rw [hC] at c1 q0 q1
        by_cases g : 0 ≤ ms ∧ ms < C
        · have HF := hide (hP.out l1 u1 2 C (by simp [oneS, h6b.out, hC, g]) (by omega))
          obtain ⟨g1, g2⟩ := g
          have HC := hide hC
          clear hC
          go_wp2
          go_region
          all_goals
            go_wp2
            have e : V = .agg #[.int .i64 f, .int .i64 l1, .int .i64 u1, .int .i64 (k : Int), .int .i64 2, .int .i64 C] := by rw [← HV.out, HF.out]; rfl
            refine bodyPost_ret (v := .agg #[.int .i64 f, .int .i64 l1, .int .i64 u1, .int .i64 (k : Int), .int .i64 2, .int .i64 C]) ?_ rfl ⟨by rw [e], ?_⟩
            · simp [results, Try.results54, go_sem, r0, r1, r2, r3, r4, r5, lR]
            · ((repeat (first | with_reducible refine hide ?_ | with_reducible exact hK.out | with_reducible refine Keeps.alloc ?_ _ | with_reducible refine Keeps.drew ?_ | with_reducible refine Keeps.set ?_ (.inr ?_) _)); all_goals (first | exact Nat.le_refl _ | omega))
        · have HQ : Hid (oneS f l1 u1 (kd, nn, ms) = (l1, u1, 0, 0)) := by simp [Hid, oneS, h6b.out, hC, g]
          have HC := hide hC
          clear hC
          by_cases g1 : ms < 0
          · clear g
            go_wp2
            go_roundw
            case rel => exact ⟨k + 1, l1, u1, by omega, by go_num, by omega, by omega, by omega, by omega, by ((repeat (first | with_reducible refine hide ?_ | with_reducible exact hB.out | with_reducible exact hRB.out | with_reducible refine Blk.alloc ?_ _ | with_reducible refine Blk.drew ?_ | with_reducible apply blk_set | with_reducible refine Blk.other ?_ ?_ _)); all_goals (first | exact rfl | simp)), by ((repeat (first | with_reducible refine hide ?_ | with_reducible exact hB.out | with_reducible exact hRB.out | with_reducible refine Blk.alloc ?_ _ | with_reducible refine Blk.drew ?_ | with_reducible apply blk_set | with_reducible refine Blk.other ?_ ?_ _)); all_goals (first | exact rfl | simp)), by ((repeat (first | with_reducible refine hide ?_ | with_reducible exact hK.out | with_reducible refine Keeps.alloc ?_ _ | with_reducible refine Keeps.drew ?_ | with_reducible refine Keeps.set ?_ (.inr ?_) _)); all_goals (first | exact Nat.le_refl _ | omega)), hO.out _ _ HQ.out⟩
            case measure => simp [intOf]; omega
          · by_cases g2 : 1048576 < ms
            · clear g
              go_wp2
              go_roundw
              case rel => exact ⟨k + 1, l1, u1, by omega, by go_num, by omega, by omega, by omega, by omega, by ((repeat (first | with_reducible refine hide ?_ | with_reducible exact hB.out | with_reducible exact hRB.out | with_reducible refine Blk.alloc ?_ _ | with_reducible refine Blk.drew ?_ | with_reducible apply blk_set | with_reducible refine Blk.other ?_ ?_ _)); all_goals (first | exact rfl | simp)), by ((repeat (first | with_reducible refine hide ?_ | with_reducible exact hB.out | with_reducible exact hRB.out | with_reducible refine Blk.alloc ?_ _ | with_reducible refine Blk.drew ?_ | with_reducible apply blk_set | with_reducible refine Blk.other ?_ ?_ _)); all_goals (first | exact rfl | simp)), by ((repeat (first | with_reducible refine hide ?_ | with_reducible exact hK.out | with_reducible refine Keeps.alloc ?_ _ | with_reducible refine Keeps.drew ?_ | with_reducible refine Keeps.set ?_ (.inr ?_) _)); all_goals (first | exact Nat.le_refl _ | omega)), hO.out _ _ HQ.out⟩
              case measure => simp [intOf]; omega
            · have g3 : ¬ ms < C := by omega
              clear g
              go_wp2
              go_roundw
              case rel => exact ⟨k + 1, l1, u1, by omega, by go_num, by omega, by omega, by omega, by omega, by ((repeat (first | with_reducible refine hide ?_ | with_reducible exact hB.out | with_reducible exact hRB.out | with_reducible refine Blk.alloc ?_ _ | with_reducible refine Blk.drew ?_ | with_reducible apply blk_set | with_reducible refine Blk.other ?_ ?_ _)); all_goals (first | exact rfl | simp)), by ((repeat (first | with_reducible refine hide ?_ | with_reducible exact hB.out | with_reducible exact hRB.out | with_reducible refine Blk.alloc ?_ _ | with_reducible refine Blk.drew ?_ | with_reducible apply blk_set | with_reducible refine Blk.other ?_ ?_ _)); all_goals (first | exact rfl | simp)), by ((repeat (first | with_reducible refine hide ?_ | with_reducible exact hK.out | with_reducible refine Keeps.alloc ?_ _ | with_reducible refine Keeps.drew ?_ | with_reducible refine Keeps.set ?_ (.inr ?_) _)); all_goals (first | exact Nat.le_refl _ | omega)), hO.out _ _ HQ.out⟩
              case measure => simp [intOf]; omega
      · simp only [h6, Int.reduceEq, ↓reduceIte] at c0 c1
        have h6b := hide h6
        clear h6
        obtain ⟨q0, q1⟩ : 0 ≤ nn % 256 ∧ nn % 256 ≤ 255 := by omega
        obtain ⟨C, hC⟩ : ∃ C, nn % 256 = C := ⟨_, rfl⟩
        rw [hC] at c1 q0 q1
        by_cases g : C = 1
        · have HF := hide (hP.out l1 u1 C ms (by simp [oneS, h6b.out, hC, g]) (by omega))
          subst g
          have HC := hide hC
          clear hC
          go_wp2
          obtain ⟨W1, hW⟩ : ∃ W1, ((wr.setCell ⟨w.heap.size, 4, none⟩ (.int .i64 9)).setCell ⟨w.heap.size, 5, none⟩ (.int .i64 0)).alloc (.cells #[.int .u8 4, .int .i64 1, .int .i64 ms] 80) = W1 := ⟨_, rfl⟩
          have hB1 : Hid (Blk W1 w.heap.size [.int .i64 f, .int .i64 l1, .int .i64 u1, .int .i64 k, .int .i64 9, .int .i64 0] 77) := by
            rw [← hW]
            ((repeat (first | with_reducible refine hide ?_ | with_reducible exact hB.out | with_reducible exact hRB.out | with_reducible refine Blk.alloc ?_ _ | with_reducible refine Blk.drew ?_ | with_reducible apply blk_set | with_reducible refine Blk.other ?_ ?_ _)); all_goals (first | exact rfl | simp))
          have hR1 : Hid (Blk W1 (w.heap.size + 1) [.int .i64 0, .int .i64 0, .int .i64 0, .int .i64 0, .int .i64 0, .int .i64 0] 77) := by
            rw [← hW]
            ((repeat (first | with_reducible refine hide ?_ | with_reducible exact hB.out | with_reducible exact hRB.out | with_reducible refine Blk.alloc ?_ _ | with_reducible refine Blk.drew ?_ | with_reducible apply blk_set | with_reducible refine Blk.other ?_ ?_ _)); all_goals (first | exact rfl | simp))
          have hK1 : Hid (Keeps Non w W1) := by
            rw [← hW]
            ((repeat (first | with_reducible refine hide ?_ | with_reducible exact hK.out | with_reducible refine Keeps.alloc ?_ _ | with_reducible refine Keeps.drew ?_ | with_reducible refine Keeps.set ?_ (.inr ?_) _)); all_goals (first | exact Nat.le_refl _ | omega))
          have hX1 : Hid (Blk W1 wr.heap.size [.int .u8 4, .int .i64 1, .int .i64 ms] 80) := by
            rw [← hW]
            exact Blk.newAt _ _ _ (by simp)
          rw [hW]
          clear hW s0 s1 s2 s3 s4 s5 r0 r1 r2 r3 r4 r5 e0 e1 e2 e3 e4 e5 t0 t1 t2 t3 t4 t5 lB lR
          have hK := hK1
          have s0 := hB1.out.cell 0
          have s1 := hB1.out.cell 1
          have s2 := hB1.out.cell 2
          have s3 := hB1.out.cell 3
          have s4 := hB1.out.cell 4
          have s5 := hB1.out.cell 5
          have e4 := hB1.out.free 4 none
          have e5 := hB1.out.free 5 none
          have r0 := hR1.out.cell 0
          have r1 := hR1.out.cell 1
          have r2 := hR1.out.cell 2
          have r3 := hR1.out.cell 3
          have r4 := hR1.out.cell 4
          have r5 := hR1.out.cell 5
          have t0 := hR1.out.free 0 none
          have t1 := hR1.out.free 1 none
          have t2 := hR1.out.free 2 none
          have t3 := hR1.out.free 3 none
          have t4 := hR1.out.free 4 none
          have t5 := hR1.out.free 5 none
          have x1 := hX1.out.cell 1
          have x2 := hX1.out.cell 2
          have lB := Blk.lt hB1.out
          have lR := Blk.lt hR1.out
          have lX := Blk.lt hX1.out
          simp only [List.getElem?_cons_zero, List.getElem?_cons_succ] at s0 s1 s2 s3 s4 s5 r0 r1 r2 r3 r4 r5 x1 x2
          go_region
          all_goals
            go_wp2
            have e : V = .agg #[.int .i64 f, .int .i64 l1, .int .i64 u1, .int .i64 (k : Int), .int .i64 1, .int .i64 ms] := by rw [← HV.out, HF.out]; rfl
            refine bodyPost_ret (v := .agg #[.int .i64 f, .int .i64 l1, .int .i64 u1, .int .i64 (k : Int), .int .i64 1, .int .i64 ms]) ?_ rfl ⟨by rw [e], ?_⟩
            · simp [results, Try.results54, go_sem, r0, r1, r2, r3, r4, r5]
            · ((repeat (first | with_reducible refine hide ?_ | with_reducible exact hK.out | with_reducible refine Keeps.alloc ?_ _ | with_reducible refine Keeps.drew ?_ | with_reducible refine Keeps.set ?_ (.inr ?_) _)); all_goals (first | exact Nat.le_refl _ | omega))
        · by_cases g2 : C = 2
          · have HF := hide (hP.out l1 u1 C ms (by simp [oneS, h6b.out, hC, g2]) (by omega))
            subst g2
            have HC := hide hC
            clear hC g
            go_wp2
            obtain ⟨W1, hW⟩ : ∃ W1, ((wr.setCell ⟨w.heap.size, 4, none⟩ (.int .i64 9)).setCell ⟨w.heap.size, 5, none⟩ (.int .i64 0)).alloc (.cells #[.int .u8 4, .int .i64 2, .int .i64 ms] 80) = W1 := ⟨_, rfl⟩
            have hB1 : Hid (Blk W1 w.heap.size [.int .i64 f, .int .i64 l1, .int .i64 u1, .int .i64 k, .int .i64 9, .int .i64 0] 77) := by
              rw [← hW]
              ((repeat (first | with_reducible refine hide ?_ | with_reducible exact hB.out | with_reducible exact hRB.out | with_reducible refine Blk.alloc ?_ _ | with_reducible refine Blk.drew ?_ | with_reducible apply blk_set | with_reducible refine Blk.other ?_ ?_ _)); all_goals (first | exact rfl | simp))
            have hR1 : Hid (Blk W1 (w.heap.size + 1) [.int .i64 0, .int .i64 0, .int .i64 0, .int .i64 0, .int .i64 0, .int .i64 0] 77) := by
              rw [← hW]
              ((repeat (first | with_reducible refine hide ?_ | with_reducible exact hB.out | with_reducible exact hRB.out | with_reducible refine Blk.alloc ?_ _ | with_reducible refine Blk.drew ?_ | with_reducible apply blk_set | with_reducible refine Blk.other ?_ ?_ _)); all_goals (first | exact rfl | simp))
            have hK1 : Hid (Keeps Non w W1) := by
              rw [← hW]
              ((repeat (first | with_reducible refine hide ?_ | with_reducible exact hK.out | with_reducible refine Keeps.alloc ?_ _ | with_reducible refine Keeps.drew ?_ | with_reducible refine Keeps.set ?_ (.inr ?_) _)); all_goals (first | exact Nat.le_refl _ | omega))
            have hX1 : Hid (Blk W1 wr.heap.size [.int .u8 4, .int .i64 2, .int .i64 ms] 80) := by
              rw [← hW]
              exact Blk.newAt _ _ _ (by simp)
            rw [hW]
            clear hW s0 s1 s2 s3 s4 s5 r0 r1 r2 r3 r4 r5 e0 e1 e2 e3 e4 e5 t0 t1 t2 t3 t4 t5 lB lR
            have hK := hK1
            have s0 := hB1.out.cell 0
            have s1 := hB1.out.cell 1
            have s2 := hB1.out.cell 2
            have s3 := hB1.out.cell 3
            have s4 := hB1.out.cell 4
            have s5 := hB1.out.cell 5
            have e4 := hB1.out.free 4 none
            have e5 := hB1.out.free 5 none
            have r0 := hR1.out.cell 0
            have r1 := hR1.out.cell 1
            have r2 := hR1.out.cell 2
            have r3 := hR1.out.cell 3
            have r4 := hR1.out.cell 4
            have r5 := hR1.out.cell 5
            have t0 := hR1.out.free 0 none
            have t1 := hR1.out.free 1 none
            have t2 := hR1.out.free 2 none
            have t3 := hR1.out.free 3 none
            have t4 := hR1.out.free 4 none
            have t5 := hR1.out.free 5 none
            have x1 := hX1.out.cell 1
            have x2 := hX1.out.cell 2
            have lB := Blk.lt hB1.out
            have lR := Blk.lt hR1.out
            have lX := Blk.lt hX1.out
            simp only [List.getElem?_cons_zero, List.getElem?_cons_succ] at s0 s1 s2 s3 s4 s5 r0 r1 r2 r3 r4 r5 x1 x2
            go_region
            all_goals
              go_wp2
              have e : V = .agg #[.int .i64 f, .int .i64 l1, .int .i64 u1, .int .i64 (k : Int), .int .i64 2, .int .i64 ms] := by rw [← HV.out, HF.out]; rfl
              refine bodyPost_ret (v := .agg #[.int .i64 f, .int .i64 l1, .int .i64 u1, .int .i64 (k : Int), .int .i64 2, .int .i64 ms]) ?_ rfl ⟨by rw [e], ?_⟩
              · simp [results, Try.results54, go_sem, r0, r1, r2, r3, r4, r5]
              · ((repeat (first | with_reducible refine hide ?_ | with_reducible exact hK.out | with_reducible refine Keeps.alloc ?_ _ | with_reducible refine Keeps.drew ?_ | with_reducible refine Keeps.set ?_ (.inr ?_) _)); all_goals (first | exact Nat.le_refl _ | omega))
          · have HF := hide (hP.out l1 u1 9 0 (by simp [oneS, h6b.out, hC, g, g2]) (by omega))
            have HC := hide hC
            have b1 : (C == 1) = false := by simp [g]
            have b2 : (C == 2) = false := by simp [g2]
            clear hC g g2
            go_wp2
            have e : V = .agg #[.int .i64 f, .int .i64 l1, .int .i64 u1, .int .i64 (k : Int), .int .i64 9, .int .i64 0] := by rw [← HV.out, HF.out]; rfl
            refine bodyPost_ret (v := .agg #[.int .i64 f, .int .i64 l1, .int .i64 u1, .int .i64 (k : Int), .int .i64 9, .int .i64 0]) ?_ rfl ⟨by rw [e], ?_⟩
            · simp [results, Try.results54, go_sem, r0, r1, r2, r3, r4, r5, lR]
            · ((repeat (first | with_reducible refine hide ?_ | with_reducible exact hK.out | with_reducible refine Keeps.alloc ?_ _ | with_reducible refine Keeps.drew ?_ | with_reducible refine Keeps.set ?_ (.inr ?_) _)); all_goals (first | exact Nat.le_refl _ | omega))
      · simp only [h6, Int.reduceEq, ↓reduceIte] at c0 c1
        have h6b := hide h6
        clear h6
        have HF := hide (hP.out l1 u1 8 0 (by simp [oneS, h6b.out]) (by omega))
        go_wp2
        have e : V = .agg #[.int .i64 f, .int .i64 l1, .int .i64 u1, .int .i64 (k : Int), .int .i64 9, .int .i64 0] := by rw [← HV.out, HF.out]; rfl
        refine bodyPost_ret (v := .agg #[.int .i64 f, .int .i64 l1, .int .i64 u1, .int .i64 (k : Int), .int .i64 9, .int .i64 0]) ?_ rfl ⟨by rw [e], ?_⟩
        · simp [results, Try.results54, go_sem, r0, r1, r2, r3, r4, r5, lR]
        · ((repeat (first | with_reducible refine hide ?_ | with_reducible exact hK.out | with_reducible refine Keeps.alloc ?_ _ | with_reducible refine Keeps.drew ?_ | with_reducible refine Keeps.set ?_ (.inr ?_) _)); all_goals (first | exact Nat.le_refl _ | omega))
    · have hkn : k = n := by omega
      subst hkn
      have HF := hide (run_end hlen.out hR.out)
      go_wp2
      have e : V = .agg #[.int .i64 f, .int .i64 l1, .int .i64 u1, .int .i64 (k : Int), .int .i64 0, .int .i64 0] := by rw [← HV.out, HF.out]; rfl
      refine bodyPost_ret (v := .agg #[.int .i64 f, .int .i64 l1, .int .i64 u1, .int .i64 (k : Int), .int .i64 0, .int .i64 0]) ?_ rfl ⟨by rw [e], ?_⟩
      · simp [results, Try.results54, go_sem, r0, r1, r2, r3, r4, r5, lR]
      · ((repeat (first | with_reducible refine hide ?_ | with_reducible exact hK.out | with_reducible refine Keeps.alloc ?_ _ | with_reducible refine Keeps.drew ?_ | with_reducible refine Keeps.set ?_ (.inr ?_) _)); all_goals (first | exact Nat.le_refl _ | omega))
end Go.Proofs.Ytfjofiofgjlgiaa
