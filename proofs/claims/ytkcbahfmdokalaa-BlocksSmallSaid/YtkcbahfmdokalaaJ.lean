/-
  Walks over layer 6: refine. No condition.
-/
import Derived.Test.YtkcbahfmdokalaaI
import Derived.Test.YtkcbahfmdokalaaF
import Derived.IntWalk
namespace Go.Proofs.Ytkcbahfmdokalaa
open Go.RowKit
attribute [local go_sem] onto_cell onto_frozen
set_option linter.unusedVariables false
/-- Lists of numbers at a, n of them. -/
structure Rows (w : World) (a : Option Addr) (n : Nat) (xss : List (List Int)) : Prop where
  len : xss.length = n
  big : n ≤ 17592186044416
  cell : n = 0 ∨ ∃ b off, a = some ⟨b, off, none⟩ ∧ b < w.heap.size ∧ ∀ i, i < n → ∃ ai ci, w.cell? ⟨b, off + i, none⟩ = some (.slice ai (xss.getD i []).length ci) ∧ Ints w ai (xss.getD i []).length (xss.getD i [])
theorem Rows.at {w : World} {a : Option Addr} {n : Nat} {xss : List (List Int)} (h : Rows w a n xss) (hn : 0 < n) : ∃ b off, a = some ⟨b, off, none⟩ ∧ b < w.heap.size ∧ ∀ i, i < n → ∃ ai ci, w.cell? ⟨b, off + i, none⟩ = some (.slice ai (xss.getD i []).length ci) ∧ Ints w ai (xss.getD i []).length (xss.getD i []) :=
  h.cell.resolve_left (by omega)
theorem Rows.non {w w' : World} {a : Option Addr} {n : Nat} {xss : List (List Int)} (h : Rows w a n xss) (k : Keeps Non w w') : Rows w' a n xss :=
  ⟨h.len, h.big, h.cell.imp id fun ⟨b, off, ha, hb, hc⟩ => ⟨b, off, ha, Nat.lt_of_lt_of_le hb k.size, fun i hi => by
    obtain ⟨ai, ci, h1, h2⟩ := hc i hi
    exact ⟨ai, ci, (k.cell (p := ⟨b, off + i, none⟩) hb (fun x => x)).trans h1, h2.non k⟩⟩⟩
/-- What comes next is right. -/
def NextOk (n : Nat) (next : List (List Int)) : Prop := next.length = n ∧ ∀ l ∈ next, l.length ≤ 64 ∧ ∀ x ∈ l, 0 ≤ x ∧ x < n
theorem getD_mem {α : Type} {xs : List α} {d : α} {i : Nat} (h : i < xs.length) : xs.getD i d ∈ xs := by
  rw [getD_numL h]
  exact List.getElem_mem h
theorem good_at {xs : List Int} (h : Good xs) (i : Nat) : (Lit.int .i64 (xs.getD i 0)).wf = true := by
  by_cases hi : i < xs.length
  · exact h _ (getD_mem hi)
  · rw [List.getD_eq_getElem?_getD, List.getElem?_eq_none (by omega)]
    decide
theorem keyOf1_good {p : List Int} (hp : Good p) {b : Int} (hb : (Lit.int .i64 b).wf = true) {l : List Int} (hl : l.length ≤ 64) : (keyOf1 p b l).length = 66 ∧ ∀ x ∈ keyOf1 p b l, (Lit.int .i64 x).wf = true := by
  unfold keyOf1
  refine ⟨by simp; omega, fun x hx => ?_⟩
  simp only [List.mem_cons, List.mem_append, List.mem_map, List.mem_replicate] at hx
  rcases hx with rfl | rfl | ⟨y, _, rfl⟩ | ⟨_, rfl⟩
  · exact hb
  · exact wf_of (by omega) (by omega)
  · exact good_at hp _
  · decide
theorem keysR_good {p : List Int} {next : List (List Int)} (hp : Good p) (hl : ∀ l ∈ next, l.length ≤ 64) : ∀ x ∈ keysR p next, x.length = 66 ∧ ∀ y ∈ x, (Lit.int .i64 y).wf = true := by
  intro x hx
  obtain ⟨⟨b, l⟩, h1, rfl⟩ := List.mem_map.1 hx
  have h2 := List.of_mem_zip h1
  exact keyOf1_good hp (hp _ h2.1) (hl _ h2.2)
def wds (p : List Int) (next : List (List Int)) (hp : Good p) (hl : ∀ l ∈ next, l.length ≤ 64) : List Wd := (keysR p next).attach.map fun x => ⟨x.1, keysR_good hp hl x.1 x.2⟩
theorem wds_val (p : List Int) (next : List (List Int)) (hp : Good p) (hl : ∀ l ∈ next, l.length ≤ 64) : (wds p next hp hl).map Subtype.val = keysR p next := by
  unfold wds
  rw [List.map_map]
  exact List.attach_map_subtype_val _
theorem wds_numb (p : List Int) (next : List (List Int)) (hp : Good p) (hl : ∀ l ∈ next, l.length ≤ 64) : numb [] (wds p next hp hl) = refineL p next := by
  unfold refineL
  rw [← wds_val p next hp hl]
  exact (numb_of_zip (wds p next hp hl) Subtype.val (fun x _ y _ h => Subtype.ext h)).symm
theorem wds_at (p : List Int) (next : List (List Int)) (hp : Good p) (hl : ∀ l ∈ next, l.length ≤ 64) {i : Nat} (h : i < (keysR p next).length) : ((wds p next hp hl).getD i wd0).1 = (keysR p next).getD i [] := by
  have hl2 : i < (wds p next hp hl).length := by simp [wds]; exact h
  rw [getD_numL hl2]
  have e : (wds p next hp hl)[i].1 = ((wds p next hp hl).map Subtype.val)[i]'(by simpa using hl2) := by simp
  rw [e]
  simp only [wds_val]
  rw [getD_numL h]
/-- The words up to a cell. -/
def wordF (p : List Int) (next : List (List Int)) (B j : Nat) : Int := if j < B then ((keysR p next).getD (j / 66) []).getD (j % 66) 0 else 0
theorem wordF_step (p : List Int) (next : List (List Int)) (m k i : Nat) (v : Int) (hi : i < 66) (hv : ((keysR p next).getD k []).getD i 0 = v) :
    rowF m (fun j => if j = k * 66 + i then v else wordF p next (k * 66 + i) j) = rowF m (wordF p next (k * 66 + i + 1)) := by
  refine rowF_congr fun j _ => ?_
  unfold wordF
  by_cases h1 : j = k * 66 + i
  · have e1 : (k * 66 + i) / 66 = k := by omega
    have e2 : (k * 66 + i) % 66 = i := by omega
    rw [if_pos h1, h1, if_pos (by omega), e1, e2, hv]
  · rw [if_neg h1]
    by_cases h2 : j < k * 66 + i
    · rw [if_pos h2, if_pos (show j < k * 66 + i + 1 by omega)]
    · rw [if_neg h2, if_neg (show ¬ j < k * 66 + i + 1 by omega)]
theorem keysR_at {p : List Int} {next : List (List Int)} {k : Nat} (h1 : k < p.length) (h2 : k < next.length) : (keysR p next).getD k [] = keyOf1 p (p.getD k 0) (next.getD k []) := by
  have hk : k < (keysR p next).length := by simp [keysR]; omega
  rw [getD_numL hk]
  simp only [keysR, List.getElem_map, List.getElem_zip]
  rw [getD_num h1, getD_numL h2]
theorem keyOf1_at {p : List Int} {b : Int} {l : List Int} {i : Nat} (hi : i < l.length) : (keyOf1 p b l).getD (i + 2) 0 = p.getD (l.getD i 0).toNat 0 := by
  unfold keyOf1
  rw [show i + 2 = i + 1 + 1 from rfl, List.getD_cons_succ, List.getD_cons_succ, List.getD_eq_getElem?_getD, List.getElem?_append_left (by simpa using hi), List.getElem?_map, List.getElem?_eq_getElem hi, getD_num hi]
  rfl
theorem keyOf1_zero {p : List Int} {b : Int} {l : List Int} {i : Nat} (hi : l.length + 2 ≤ i) : (keyOf1 p b l).getD i 0 = 0 := by
  obtain ⟨j, rfl⟩ : ∃ j, i = j + 2 := ⟨i - 2, by omega⟩
  unfold keyOf1
  rw [show j + 2 = j + 1 + 1 from rfl, List.getD_cons_succ, List.getD_cons_succ, List.getD_eq_getElem?_getD, List.getElem?_append_right (by simp; omega), List.getElem?_replicate]
  split <;> rfl
theorem wordF_end (p : List Int) (next : List (List Int)) (m k : Nat) (l : List Int) (h : (keysR p next).getD k [] = keyOf1 p (p.getD k 0) l) (hl : l.length ≤ 64) :
    rowF m (wordF p next (k * 66 + l.length + 2)) = rowF m (wordF p next ((k + 1) * 66)) := by
  refine rowF_congr fun j _ => ?_
  unfold wordF
  by_cases h1 : j < k * 66 + l.length + 2
  · rw [if_pos h1, if_pos (by omega)]
  · rw [if_neg h1]
    by_cases h2 : j < (k + 1) * 66
    · have e1 : j / 66 = k := by omega
      rw [if_pos h2, e1, h, keyOf1_zero (by omega)]
    · rw [if_neg h2]
theorem wds_blk {w : World} {b : Nat} {p : List Int} {next : List (List Int)} (hp : Good p) (hl : ∀ l ∈ next, l.length ≤ 64) {n : Nat} (h1 : p.length = n) (h2 : next.length = n) (hn : n ≤ 1000000) (h : Blk w b (rowF (n * 66) (wordF p next (n * 66))) 93) : WdsIn w (some ⟨b, 0, none⟩) n (wds p next hp hl) := by
  have hk : (keysR p next).length = n := by simp [keysR, h1, h2]
  refine ⟨by simp [wds, hk], by omega, .inr ⟨b, 0, rfl, h.lt, fun i hi j v hv => ?_⟩⟩
  have hj : j < 66 := by
    have := (List.getElem?_eq_some_iff.1 hv).1
    rwa [wL_length] at this
  unfold wL at hv
  rw [wds_at p next hp hl (by omega), List.getElem?_map] at hv
  have hl66 := (keysR_good hp hl ((keysR p next).getD i []) (getD_mem (by omega))).1
  rw [List.getElem?_eq_getElem (by omega)] at hv
  simp only [Option.map_some, Option.some.injEq] at hv
  rw [h.cell, rowF_at _ (by omega)]
  unfold wordF
  have e1 : (0 + i * 66 + j) / 66 = i := by omega
  have e2 : (0 + i * 66 + j) % 66 = j := by omega
  rw [if_pos (by omega), e1, e2, ← hv, getD_num (by omega)]
theorem info93_all : (Try.prog.info? 93).map (fun i => (i.zero, i.size, i.bytes)) = some (some (.agg (Array.replicate 66 (.int .i64 0))), 66, 528) := by kernel_rfl
theorem info93_parts : ∃ i, Try.prog.info? 93 = some i ∧ i.zero = some (.agg (Array.replicate 66 (.int .i64 0))) ∧ i.size = 66 ∧ i.bytes = 528 := by
  have h := info93_all
  cases hq : Try.prog.info? 93 with
  | none => rw [hq] at h; simp at h
  | some i =>
    rw [hq] at h
    simp only [Option.map_some, Option.some.injEq, Prod.mk.injEq] at h
    exact ⟨i, rfl, h.1, h.2.1, h.2.2⟩
theorem make91 (w : World) (n : Nat) (hn : n ≤ 2000) : (Instr.makeSlice 91 (.int .i64 (n : Int)) (.int .i64 (n : Int))).run Try.prog w = .ok (.slice (some ⟨w.heap.size, 0, none⟩) n n) (w.alloc (.cells (rowF (n * 66) fun _ => 0).toArray 93)) := by
  obtain ⟨i, h1, h2, h3, h4⟩ := info93_parts
  have := run_makeSlice (P := Try.prog) w 91 93 i (.agg (Array.replicate 66 (.int .i64 0))) Try.underlying91 h1 h2 .i64 .i64 (n : Int) (n : Int) (by omega) (by omega) (by rw [h3]; simp; omega) (by rw [h4]; simp; omega) (by omega)
  rw [this, h3]
  simp only [Int.toNat_natCast]
  rw [show (Value.agg (Array.replicate 66 (.int IntKind.i64 0))).cells = Array.replicate 66 (.int .i64 0) from rfl, made_zeros 66 n (by decide)]
set_option maxRecDepth 100000 in
set_option maxHeartbeats 8000000 in
theorem refine_l (a b : Option Addr) (n cap m cap2 : Nat) (p : List Int) (next : List (List Int)) (w : World) (h : Ints w a n p) (h2 : Rows w b m next) (hg : Good p) (hnm : n = m) (hn : n ≤ 1024) (ho : NextOk n next) :
    Calls Try.prog 54 #[.slice a n cap, .slice b m cap2] w fun e w' => ∃ v, e = .returned v ∧ NewInts w w' v (refineL p next) := by
  subst hnm
  have HX := hide h
  have HY := hide h2
  have HG := hide hg
  have HO := hide ho
  have HL : Hid (∀ l ∈ next, l.length ≤ 64) := fun l hl => (ho.2 l hl).1
  clear h h2 hg ho
  have hms := make91 w n (by omega)
  obtain ⟨B, hB⟩ : ∃ B, w.heap.size = B := ⟨_, rfl⟩
  have HBs := hide hB
  have HR0 : Hid (Blk (w.alloc (.cells (rowF (n * 66) fun _ => 0).toArray 93)) B (rowF (n * 66) (wordF p next (0 * 66))) 93) := by
    have e : rowF (n * 66) (wordF p next (0 * 66)) = rowF (n * 66) fun _ => 0 := rowF_congr fun j _ => by simp [wordF]
    rw [e]
    exact Blk.newAt w _ 93 hB.symm
  have HK0 := hide ((Keeps.refl Non w).alloc (.cells (rowF (n * 66) fun _ => 0).toArray 93))
  clear hB
  go_enter Try.func54, Try.ntmps54
  go_wp2_with fail
  rw [HBs.out]
  obtain ⟨W, hW⟩ : ∃ W, w.alloc (.cells (rowF (n * 66) fun _ => 0).toArray 93) = W := ⟨_, rfl⟩
  rw [hW] at HR0 HK0 ⊢
  clear hW hms
  go_loopw [15] (fun i wr => ∃ (k : Nat), k ≤ n ∧ i = .int .i64 k ∧ Hid (Blk wr B (rowF (n * 66) (wordF p next (k * 66))) 93) ∧ Hid (Keeps Non w wr)) (fun i _ => n - (intOf i).toNat)
  case atStart => exact ⟨0, by omega, rfl, HR0.out, HK0.out⟩
  case round =>
    clear HR0 HK0
    obtain ⟨k, hk, rfl, HR, HKr⟩ := hrel
    by_cases hlt : k < n
    · obtain ⟨b1, o1, rfl, hb1, hc1⟩ := (HX.out.non HKr.out).at (by omega)
      obtain ⟨b2, o2, rfl, hb2, hc2⟩ := HY.out.at (by omega)
      have c1 := hc1 k hlt
      obtain ⟨ai, ci, c2w, hI⟩ := hc2 k hlt
      have c2 := (HKr.out.cell (p := ⟨b2, o2 + k, none⟩) hb2 (fun x => x)).trans c2w
      clear c2w
      replace hb2 := Nat.lt_of_lt_of_le hb2 HKr.out.size
      obtain ⟨l, hl⟩ : ∃ l, next.getD k [] = l := ⟨_, rfl⟩
      rw [hl] at c2 hI
      have HI := hide hI
      obtain ⟨x, hx⟩ : ∃ x, p.getD k 0 = x := ⟨_, rfl⟩
      rw [hx] at c1
      have hpl : p.length = n := HX.out.len
      have hml : next.length = n := HO.out.1
      have hlm : l ∈ next := by rw [← hl]; exact getD_mem (by omega)
      have hl64 := (HO.out.2 l hlm).1
      have HLx := hide (HO.out.2 l hlm).2
      have HKey : Hid ((keysR p next).getD k [] = keyOf1 p x l) := by
        show _ = _
        rw [keysR_at (by omega) (by omega), hl, hx]
      have HXx := hide hx
      obtain ⟨q, hq⟩ : ∃ q, l.length = q := ⟨_, rfl⟩
      have HQ := hide hq
      rw [hq] at c2 HI hl64
      have cr0 : wr.cell? ⟨B, k * 66, none⟩ = some (.int .i64 (wordF p next (k * 66) (k * 66))) := by rw [HR.out.cell]; exact rowF_at _ (by omega)
      have cr1 : wr.cell? ⟨B, k * 66 + 1, none⟩ = some (.int .i64 (wordF p next (k * 66) (k * 66 + 1))) := by rw [HR.out.cell]; exact rowF_at _ (by omega)
      have fr0 := HR.out.free (k * 66) none
      have fr1 := HR.out.free (k * 66 + 1) none
      have lr := HR.out.lt
      have HSz : Hid (B < wr.heap.size) := lr
      have k0 : (0 : Int) ≤ (k : Int) := by omega
      have k1 : (k : Int) < (n : Int) := by omega
      clear hx hl hI hc1 hc2 hlm hq hpl hml
      have hs0 := wordF_step p next (n * 66) k 0 x (by omega) (by rw [HKey.out]; rfl)
      have hs1 := wordF_step p next (n * 66) k 1 (q : Int) (by omega) (by rw [HKey.out, ← HQ.out]; rfl)
      have HN0 : Hid (∀ u, Blk u B (rowF (n * 66) (wordF p next (k * 66))) 93 → Blk ((u.setCell ⟨B, k * 66, none⟩ (.int .i64 x)).setCell ⟨B, k * 66 + 1, none⟩ (.int .i64 q)) B (rowF (n * 66) (wordF p next (k * 66 + 0 + 2))) 93) := by
        intro u hu
        have h1 := (hu.store (k * 66) (.int .i64 x)).store (k * 66 + 1) (.int .i64 (q : Int))
        rw [rowF_set, rowF_set] at h1
        have e : rowF (n * 66) (fun j => if j = k * 66 + 1 then (q : Int) else if j = k * 66 then x else wordF p next (k * 66) j) = rowF (n * 66) (wordF p next (k * 66 + 0 + 2)) := by
          rw [show k * 66 + 0 + 2 = k * 66 + 1 + 1 from rfl, ← hs1]
          refine rowF_congr fun j hj => ?_
          by_cases e1 : j = k * 66 + 1
          · rw [if_pos e1, if_pos e1]
          · rw [if_neg e1, if_neg e1]
            have h3 : (rowF (n * 66) (fun j => if j = k * 66 + 0 then x else wordF p next (k * 66 + 0) j))[j]? = (rowF (n * 66) (wordF p next (k * 66 + 0 + 1)))[j]? := by rw [hs0]
            rw [rowF_at _ hj, rowF_at _ hj] at h3
            simpa using h3
        rw [e] at h1
        exact h1
      have HN1 : Hid (∀ u, Blk u B (rowF (n * 66) (wordF p next (k * 66))) 93 → Blk ((u.setCell ⟨B, k * 66 + 1, none⟩ (.int .i64 q)).setCell ⟨B, k * 66, none⟩ (.int .i64 x)) B (rowF (n * 66) (wordF p next (k * 66 + 0 + 2))) 93) := by
        intro u hu
        have h0 := HN0.out u hu
        have h1 := (hu.store (k * 66) (.int .i64 x)).store (k * 66 + 1) (.int .i64 (q : Int))
        have h2 := (hu.store (k * 66 + 1) (.int .i64 (q : Int))).store (k * 66) (.int .i64 x)
        rw [List.set_comm _ _ (by omega)] at h2
        unfold Blk at h0 h1 h2 ⊢
        rw [h2, ← h1, h0]
      have HBk : Hid (B ≥ w.heap.size) := by have := HBs.out; show _ ≥ _; omega
      clear hs0 hs1
      go_wp2_with fail
      go_region
      all_goals
        go_wp2_with fail
        go_loopw [36] (fun j wi => ∃ (i : Nat), i ≤ q ∧ j = .int .i64 i ∧ Hid (Blk wi B (rowF (n * 66) (wordF p next (k * 66 + i + 2))) 93) ∧ Hid (Keeps Non w wi)) (fun j _ => q - (intOf j).toNat)
        case atStart => exact ⟨0, by omega, rfl, by first | exact HN0.out _ HR.out.drew | exact HN1.out _ HR.out.drew, by first | exact ((HKr.out.drew.set (b := B) (i := k * 66) (.inr HBk.out) _).set (.inr HBk.out) _) | exact ((HKr.out.drew.set (b := B) (i := k * 66 + 1) (.inr HBk.out) _).set (.inr HBk.out) _)⟩
        case round =>
          clear HR cr0 cr1 fr0 fr1 c1 c2 HN0 HN1 lr
          obtain ⟨i, hi, rfl, HRi, HKi⟩ := hrel
          by_cases hlt2 : i < q
          · obtain ⟨y, hy⟩ : ∃ y, l.getD i 0 = y := ⟨_, rfl⟩
            have hyb := HLx.out y (by rw [← hy]; exact getD_mem (by rw [HQ.out]; exact hlt2))
            obtain ⟨z, rfl⟩ : ∃ z : Nat, y = z := ⟨y.toNat, by omega⟩
            have hz : z < n := by omega
            obtain ⟨v, hv⟩ : ∃ v, p.getD z 0 = v := ⟨_, rfl⟩
            obtain ⟨b3, o3, rfl, hb3, hc3⟩ := (HI.out.non HKi.out).at (by omega)
            obtain ⟨b4, o4, e4, hb4, hc4⟩ := (HX.out.non HKi.out).at (by omega)
            simp only [Option.some.injEq, Addr.mk.injEq, and_true] at e4
            obtain ⟨rfl, rfl⟩ := e4
            have c3 := hc3 i hlt2
            have c4 := hc4 z hz
            rw [hy] at c3
            rw [hv] at c4
            have hs := wordF_step p next (n * 66) k (i + 2) v (by omega) (by rw [HKey.out, keyOf1_at (by rw [HQ.out]; exact hlt2), hy]; simpa using hv)
            have HS := hide hs
            have ci0 : wr.cell? ⟨B, k * 66 + (i + 2), none⟩ = some (.int .i64 (wordF p next (k * 66 + i + 2) (k * 66 + (i + 2)))) := by rw [HRi.out.cell]; exact rowF_at _ (by omega)
            have fi0 := HRi.out.free (k * 66 + (i + 2)) none
            have li := HRi.out.lt
            have z0 : (0 : Int) ≤ (z : Int) := by omega
            have z1 : (z : Int) < (n : Int) := by omega
            have i0 : (0 : Int) ≤ (i : Int) := by omega
            have i1 : (i : Int) < (q : Int) := by omega
            have i2 : IntKind.i64.wrap ((i : Int) + 2) = (i : Int) + 2 := IntWalk.i64_in _ (by omega)
            have i3 : (0 : Int) ≤ (i : Int) + 2 := by omega
            have i4 : (i : Int) + 2 < 66 := by omega
            have i5 : ((i : Int) + 2).toNat = i + 2 := by omega
            clear hc3 hc4 hy hv hs hyb
            go_wp2_with fail
            go_region
            all_goals
              go_wp2_with fail
              clear i2 i3 i4 i5
              go_roundw
              case rel => exact ⟨i + 1, by omega, by go_num, by
                have h1 := HRi.out.drew.store (k * 66 + (i + 2)) (.int .i64 v)
                rw [rowF_set] at h1
                have h2 := HS.out
                rw [show k * 66 + (i + 2) = k * 66 + i + 2 by omega] at h1 h2
                rw [h2] at h1
                rw [show k * 66 + (i + 1) + 2 = k * 66 + i + 2 + 1 by omega]
                exact h1, HKi.out.drew.set (b := B) (.inr HBk.out) _⟩
              case measure => simp [intOf]; omega
          · have hiq : i = q := by omega
            subst hiq
            have y9 : ¬ (i : Int) < (i : Int) := by omega
            have he := wordF_end p next (n * 66) k l (by rw [HXx.out]; exact HKey.out) (by rw [HQ.out]; exact hl64)
            rw [HQ.out] at he
            have HE := hide he
            clear he
            go_wp2_with fail
            go_roundw
            case rel => exact ⟨k + 1, by omega, by go_num, by
              have h1 := HRi.out
              rw [HE.out] at h1
              exact h1, HKi.out⟩
            case measure => simp [intOf]; omega
    · have hkn : k = n := by omega
      subst hkn
      have y9 : ¬ (k : Int) < (k : Int) := by omega
      have hpl : p.length = k := HX.out.len
      have hql : next.length = k := HY.out.len
      have HC := hide (numbered_word (some ⟨B, 0, none⟩) k k (wds p next HG.out HL.out) wr (wds_blk HG.out HL.out hpl hql (by omega) HR.out) (by omega))
      rw [wds_numb] at HC
      have HLn : Hid ((refineL p next).length = k) := by show _ = _; rw [refineL_length (by omega), hpl]
      clear hpl hql
      go_wp2_with fail
      refine HC.out.mono ?_
      rintro e w4 ⟨g, rfl, hg, hB4, hk4⟩
      have HB4 := hide hB4
      have HK4 := hide (HKr.out.then hk4)
      have HS : Hid (w.heap.size ≤ g) := Nat.le_trans HKr.out.size hg
      clear hB4 hg hk4
      go_wp2_with fail
      go_ret
      exact ⟨_, rfl, g, by rw [HLn.out]; rfl, HS.out, HB4.out, HK4.out⟩
end Go.Proofs.Ytkcbahfmdokalaa
