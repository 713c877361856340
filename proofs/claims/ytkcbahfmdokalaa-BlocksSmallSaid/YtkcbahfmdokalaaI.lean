/-
  Walks over layer 6: Meet, Finer. No condition.
-/
import Derived.Test.YtkcbahfmdokalaaH
namespace Go.Proofs.Ytkcbahfmdokalaa
open Go.RowKit
attribute [local go_sem] onto_cell onto_frozen
set_option linter.unusedVariables false
theorem NewInts.ints {w w' : World} {v : Value} {xs : List Int} (h : NewInts w w' v xs) (hb : xs.length ≤ 17592186044416) : ∃ b, v = .slice (some ⟨b, 0, none⟩) xs.length xs.length ∧ w.heap.size ≤ b ∧ Ints w' (some ⟨b, 0, none⟩) xs.length xs ∧ Keeps Non w w' := by
  obtain ⟨b, h1, h2, h3, h4⟩ := h
  exact ⟨b, h1, h2, ints_of_blk h3 hb, h4⟩
/-- A row of numbers, each told by its place. -/
def rowF (m : Nat) (f : Nat → Int) : List Value := (List.range m).map fun j => .int .i64 (f j)
theorem rowF_length (m : Nat) (f : Nat → Int) : (rowF m f).length = m := by simp [rowF]
theorem rowF_at {m : Nat} (f : Nat → Int) {i : Nat} (h : i < m) : (rowF m f)[i]? = some (.int .i64 (f i)) := by simp [rowF, h]
theorem rowF_congr {m : Nat} {f g : Nat → Int} (h : ∀ j, j < m → f j = g j) : rowF m f = rowF m g := by
  unfold rowF
  exact List.map_congr_left fun j hj => by rw [h j (List.mem_range.1 hj)]
theorem rowF_set {m : Nat} (f : Nat → Int) (i : Nat) (v : Int) : (rowF m f).set i (.int .i64 v) = rowF m (fun j => if j = i then v else f j) := by
  apply List.ext_getElem?
  intro j
  rw [List.getElem?_set]
  by_cases hj : i = j
  · subst hj
    rw [rowF_length]
    by_cases h : i < m
    · rw [if_pos rfl, if_pos h, rowF_at _ h, if_pos rfl]
    · rw [if_pos rfl, if_neg h, List.getElem?_eq_none (by rw [rowF_length]; omega)]
  · rw [if_neg hj]
    by_cases h : j < m
    · rw [rowF_at _ h, rowF_at _ h, if_neg (fun e => hj e.symm)]
    · rw [List.getElem?_eq_none (by rw [rowF_length]; omega), List.getElem?_eq_none (by rw [rowF_length]; omega)]
theorem rowF_zero (m : Nat) : rowF m (fun _ => 0) = List.replicate m (.int .i64 0) := by
  apply List.ext_getElem?
  intro j
  by_cases h : j < m
  · rw [rowF_at _ h, List.getElem?_replicate, if_pos h]
  · rw [List.getElem?_eq_none (by rw [rowF_length]; omega), List.getElem?_eq_none (by simp; omega)]
theorem info78 : (Try.prog.info? 78).map (fun i => (i.zero, i.size, i.bytes)) = some (some (.agg #[.int .i64 0, .int .i64 0]), 2, 16) := by kernel_rfl
theorem info78_parts : ∃ i, Try.prog.info? 78 = some i ∧ i.zero = some (.agg #[.int .i64 0, .int .i64 0]) ∧ i.size = 2 ∧ i.bytes = 16 := by
  have h := info78
  cases hq : Try.prog.info? 78 with
  | none => rw [hq] at h; simp at h
  | some i =>
    rw [hq] at h
    simp only [Option.map_some, Option.some.injEq, Prod.mk.injEq] at h
    exact ⟨i, rfl, h.1, h.2.1, h.2.2⟩
theorem made_zeros (m n : Nat) (hm : 0 < m) : madeCells (Array.replicate m (.int .i64 0)) (n * m) = (rowF (n * m) fun _ => 0).toArray := by
  apply Array.ext_getElem?
  intro i
  unfold madeCells
  rw [rowF_zero]
  have hlt : i % m < m := Nat.mod_lt _ hm
  by_cases h : i < n * m
  · simp [h, hlt]
  · simp [h]
theorem make77 (w : World) (n : Nat) (hn : n ≤ 100000) : (Instr.makeSlice 77 (.int .i64 (n : Int)) (.int .i64 (n : Int))).run Try.prog w = .ok (.slice (some ⟨w.heap.size, 0, none⟩) n n) (w.alloc (.cells (rowF (n * 2) fun _ => 0).toArray 78)) := by
  obtain ⟨i, h1, h2, h3, h4⟩ := info78_parts
  have := run_makeSlice (P := Try.prog) w 77 78 i (.agg #[.int .i64 0, .int .i64 0]) Try.underlying77 h1 h2 .i64 .i64 (n : Int) (n : Int) (by omega) (by omega) (by rw [h3]; simp; omega) (by rw [h4]; simp; omega) (by omega)
  rw [this, h3]
  simp only [Int.toNat_natCast]
  rw [show (Value.agg #[.int IntKind.i64 0, .int IntKind.i64 0]).cells = Array.replicate 2 (.int .i64 0) from rfl, made_zeros 2 n (by decide)]
/-- The keys of Meet, up to k. -/
def meetF (p q : List Int) (k j : Nat) : Int := if j < 2 * k then (if j % 2 = 0 then p.getD (j / 2) 0 else q.getD (j / 2) 0) else 0
theorem meetF_step (p q : List Int) (k m : Nat) : rowF m (fun j => if j = 2 * k + 1 then q.getD k 0 else if j = 2 * k then p.getD k 0 else meetF p q k j) = rowF m (meetF p q (k + 1)) := by
  refine rowF_congr fun j _ => ?_
  unfold meetF
  by_cases h1 : j = 2 * k + 1
  · have e1 : (2 * k + 1) / 2 = k := by omega
    have e2 : ¬ (2 * k + 1) % 2 = 0 := by omega
    rw [if_pos h1, if_pos (by omega), h1, if_neg e2, e1]
  · by_cases h2 : j = 2 * k
    · have e1 : (2 * k) / 2 = k := by omega
      have e2 : (2 * k) % 2 = 0 := by omega
      rw [if_neg h1, if_pos h2, if_pos (by omega), h2, if_pos e2, e1]
    · rw [if_neg h1, if_neg h2]
      by_cases h3 : j < 2 * k
      · rw [if_pos h3, if_pos (show j < 2 * (k + 1) by omega)]
      · rw [if_neg h3, if_neg (show ¬ j < 2 * (k + 1) by omega)]
/-- Pairs of numbers that fit. -/
def prs (p q : List Int) (hp : Good p) (hq : Good q) : List Pr := (p.zip q).attach.map fun x => ⟨x.1, hp _ (List.of_mem_zip x.2).1, hq _ (List.of_mem_zip x.2).2⟩
theorem prs_val (p q : List Int) (hp : Good p) (hq : Good q) : (prs p q hp hq).map Subtype.val = p.zip q := by
  unfold prs
  rw [List.map_map]
  exact List.attach_map_subtype_val _
theorem prs_numb (p q : List Int) (hp : Good p) (hq : Good q) : numb [] (prs p q hp hq) = numb [] (p.zip q) := by
  rw [← prs_val p q hp hq]
  exact (numb_of_zip (prs p q hp hq) Subtype.val (fun x _ y _ h => Subtype.ext h)).symm
theorem prs_at (p q : List Int) (hp : Good p) (hq : Good q) {i : Nat} (h1 : i < p.length) (h2 : i < q.length) : ((prs p q hp hq).getD i p0).1 = (p.getD i 0, q.getD i 0) := by
  have hl : i < (prs p q hp hq).length := by simp [prs]; omega
  rw [getD_numL hl]
  have e : (prs p q hp hq)[i].1 = ((prs p q hp hq).map Subtype.val)[i]'(by simpa using hl) := by simp
  rw [e]
  simp only [prs_val]
  rw [List.getElem_zip, getD_num h1, getD_num h2]
theorem prs_blk {w : World} {b : Nat} {p q : List Int} (hp : Good p) (hq : Good q) {n : Nat} (h1 : p.length = n) (h2 : q.length = n) (hn : n ≤ 1000000) (h : Blk w b (rowF (n * 2) (meetF p q n)) 78) : PrsIn w (some ⟨b, 0, none⟩) n (prs p q hp hq) := by
  refine ⟨by simp [prs, h1, h2], by omega, .inr ⟨b, 0, rfl, h.lt, fun i hi => ?_⟩⟩
  rw [prs_at p q hp hq (by omega) (by omega), h.cell, h.cell, rowF_at _ (by omega), rowF_at _ (by omega)]
  unfold meetF
  have e1 : (0 + i * 2) / 2 = i := by omega
  have e2 : (0 + i * 2 + 1) / 2 = i := by omega
  rw [if_pos (by omega), if_pos (by omega), if_pos (by omega), if_neg (by omega), e1, e2]
  exact ⟨rfl, rfl⟩
def meetL (p q : List Int) : List Int := numb [] (p.zip q)
/-- both, told apart. -/
theorem bothE_ok {p q : List Int} (h : bothE p q = 0) : rightB p = true ∧ rightB q = true ∧ p.length = q.length := by
  unfold bothE at h
  split at h
  · rename_i h1
    split at h
    · exact ⟨h1.1, h1.2, by assumption⟩
    · omega
  · omega
set_option maxRecDepth 100000 in
set_option maxHeartbeats 4000000 in
theorem meet_yes (a b : Option Addr) (n cap m cap2 : Nat) (p q : List Int) (w : World) (h : Ints w a n p) (h2 : Ints w b m q) (hg : Good p) (hg2 : Good q) (he : bothE p q = 0) :
    Calls Try.prog 30 #[.slice a n cap, .slice b m cap2] w fun e w' => ∃ v, e = .returned (.tuple #[v, .int .i64 0]) ∧ NewInts w w' v (meetL p q) := by
  have HB := both_l a b n cap m cap2 p q w h h2 hg hg2
  rw [he] at HB
  have HB2 := hide HB
  have h3 := bothE_ok he
  obtain rfl : n = m := by have := h.len; have := h2.len; omega
  have hn : n ≤ 1024 := by have := (rightB_iff.1 h3.1).1; have := h.len; omega
  have HX := hide h
  have HY := hide h2
  have HG := hide hg
  have HG2 := hide hg2
  clear HB h h2 hg hg2 h3 he
  go_enter Try.func30, Try.ntmps30
  go_wp2_with fail
  refine HB2.out.mono ?_
  rintro e w2 ⟨rfl, hk⟩
  have HK := hide hk
  have hms := make77 w2 n (by omega)
  clear hk
  obtain ⟨B, hB⟩ : ∃ B, w2.heap.size = B := ⟨_, rfl⟩
  have HBs := hide hB
  have HR0 : Hid (Blk (w2.alloc (.cells (rowF (n * 2) fun _ => 0).toArray 78)) B (rowF (n * 2) (meetF p q 0)) 78) := by
    have e : rowF (n * 2) (meetF p q 0) = rowF (n * 2) fun _ => 0 := rowF_congr fun j _ => by simp [meetF]
    rw [e]
    exact Blk.newAt w2 _ 78 hB.symm
  have HK0 := hide (HK.out.alloc (.cells (rowF (n * 2) fun _ => 0).toArray 78))
  clear hB
  go_wp2_with fail
  rw [HBs.out]
  obtain ⟨W, hW⟩ : ∃ W, w2.alloc (.cells (rowF (n * 2) fun _ => 0).toArray 78) = W := ⟨_, rfl⟩
  rw [hW] at HR0 HK0 ⊢
  clear hW hms
  go_loopw [20] (fun i wr => ∃ (k : Nat), k ≤ n ∧ i = .int .i64 k ∧ Hid (Blk wr B (rowF (n * 2) (meetF p q k)) 78) ∧ Hid (Keeps Non w wr)) (fun i _ => n - (intOf i).toNat)
  case atStart => exact ⟨0, by omega, rfl, HR0.out, HK0.out⟩
  case round =>
    clear HR0 HK0
    obtain ⟨k, hk, rfl, HR, HKr⟩ := hrel
    by_cases hlt : k < n
    · obtain ⟨b1, o1, rfl, hb1, hc1⟩ := (HX.out.non HKr.out).at (by omega)
      obtain ⟨b2, o2, rfl, hb2, hc2⟩ := (HY.out.non HKr.out).at (by omega)
      have c1 := hc1 k hlt
      have c2 := hc2 k hlt
      obtain ⟨x, hx⟩ : ∃ x, p.getD k 0 = x := ⟨_, rfl⟩
      obtain ⟨y, hy⟩ : ∃ x, q.getD k 0 = x := ⟨_, rfl⟩
      rw [hx] at c1
      rw [hy] at c2
      have HXY := hide (And.intro hx hy)
      have cr0 : wr.cell? ⟨B, k * 2, none⟩ = some (.int .i64 (meetF p q k (k * 2))) := by rw [HR.out.cell]; exact rowF_at _ (by omega)
      have cr1 : wr.cell? ⟨B, k * 2 + 1, none⟩ = some (.int .i64 (meetF p q k (k * 2 + 1))) := by rw [HR.out.cell]; exact rowF_at _ (by omega)
      have fr0 := HR.out.free (k * 2) none
      have fr1 := HR.out.free (k * 2 + 1) none
      have lr := HR.out.lt
      have k0 : (0 : Int) ≤ (k : Int) := by omega
      have k1 : (k : Int) < (n : Int) := by omega
      clear hx hy hc1 hc2
      go_wp2_with fail
      go_region
      all_goals
        go_wp2_with fail
        go_roundw
        case rel => exact ⟨k + 1, by omega, by go_num, by
          have h1 := (HR.out.drew.store (k * 2) (.int .i64 x)).store (k * 2 + 1) (.int .i64 y)
          rw [rowF_set, rowF_set] at h1
          have h3 := meetF_step p q k (n * 2)
          rw [HXY.out.1, HXY.out.2, Nat.mul_comm 2 k] at h3
          rw [h3] at h1
          exact h1, (HKr.out.drew.set (b := B) (i := k * 2) (.inr (by have := HBs.out; have := HK.out.size; omega)) _).set (.inr (by have := HBs.out; have := HK.out.size; omega)) _⟩
        case measure => simp [intOf]; omega
    · have hkn : k = n := by omega
      subst hkn
      have y9 : ¬ (k : Int) < (k : Int) := by omega
      have hpl : p.length = k := HX.out.len
      have hql : q.length = k := HY.out.len
      have HC := hide (numbered_pair (some ⟨B, 0, none⟩) k k (prs p q HG.out HG2.out) wr (prs_blk HG.out HG2.out hpl hql (by omega) HR.out) (by omega))
      rw [prs_numb] at HC
      have HL : Hid ((meetL p q).length = k) := by show _ = _; simp [meetL, numb_length, hpl, hql]
      clear hpl hql
      go_wp2_with fail
      refine HC.out.mono ?_
      rintro e w4 ⟨g, rfl, hg, hB4, hk4⟩
      have HB4 := hide hB4
      have HK4 := hide (HKr.out.then hk4)
      have HS : Hid (w.heap.size ≤ g) := Nat.le_trans HKr.out.size hg
      clear hB4 hg hk4
      go_wp2_with fail
      go_ret2
      exact ⟨_, rfl, g, by rw [HL.out]; rfl, HS.out, HB4.out, HK4.out⟩
theorem meet_no (a b : Option Addr) (n cap m cap2 : Nat) (p q : List Int) (w : World) (h : Ints w a n p) (h2 : Ints w b m q) (hg : Good p) (hg2 : Good q) (x : Int) (he : bothE p q = x) (hx : x ≠ 0) :
    Calls Try.prog 30 #[.slice a n cap, .slice b m cap2] w fun e w' => e = .returned (.tuple #[.slice none 0 0, .int .i64 x]) ∧ Keeps Non w w' := by
  have HB := both_l a b n cap m cap2 p q w h h2 hg hg2
  rw [he] at HB
  have HB2 := hide HB
  clear HB h h2 hg hg2 he
  go_enter Try.func30, Try.ntmps30
  go_wp2_with fail
  refine HB2.out.mono ?_
  rintro e w2 ⟨rfl, hk⟩
  go_wp2_with fail
  go_ret2
  exact ⟨rfl, hk⟩
theorem finer_yes (a b : Option Addr) (n cap m cap2 : Nat) (p q : List Int) (w : World) (h : Ints w a n p) (h2 : Ints w b m q) (hg : Good p) (hg2 : Good q) (he : bothE p q = 0) :
    Calls Try.prog 32 #[.slice a n cap, .slice b m cap2] w fun e w' => e = .returned (.tuple #[.bool (decide (meetL p q = p)), .int .i64 0]) ∧ Keeps Non w w' := by
  have HM := hide (meet_yes a b n cap m cap2 p q w h h2 hg hg2 he)
  have HE : Hid (∀ g w2, Blk w2 g ((meetL p q).map (Value.int .i64)) 3 → Keeps Non w w2 → Calls Try.prog 19 #[.slice (some ⟨g, 0, none⟩) (meetL p q).length (meetL p q).length, .slice a n cap] w2 fun e w3 => e = .returned (.bool (decide (meetL p q = p))) ∧ Keeps Non w2 w3) := by
    intro g w2 hb hk
    have hl : (meetL p q).length ≤ 17592186044416 := by
      have := h.big
      have := h.len
      simp [meetL, numb_length]
      omega
    exact equal_any _ _ _ _ _ _ _ _ _ (ints_of_blk hb hl) (h.non hk)
  obtain ⟨v, hv⟩ : ∃ v, decide (meetL p q = p) = v := ⟨_, rfl⟩
  rw [hv] at HE ⊢
  obtain ⟨l, hl⟩ : ∃ l, (meetL p q).length = l := ⟨_, rfl⟩
  have HL := hide hl
  rw [hl] at HE
  clear h h2 hg hg2 he hv hl
  go_enter Try.func32, Try.ntmps32
  go_wp2_with fail
  refine HM.out.mono ?_
  rintro e w2 ⟨_, rfl, g, rfl, hg, hB, hk⟩
  rw [HL.out]
  have HE2 := hide (HE.out g w2 hB hk)
  have HK := hide hk
  clear HE hB hk hg HM
  go_wp2_with fail
  refine HE2.out.mono ?_
  rintro e w3 ⟨rfl, hk3⟩
  go_wp2_with fail
  go_ret2
  exact ⟨rfl, HK.out.then hk3⟩
theorem finer_no (a b : Option Addr) (n cap m cap2 : Nat) (p q : List Int) (w : World) (h : Ints w a n p) (h2 : Ints w b m q) (hg : Good p) (hg2 : Good q) (x : Int) (he : bothE p q = x) (hx : x ≠ 0) :
    Calls Try.prog 32 #[.slice a n cap, .slice b m cap2] w fun e w' => e = .returned (.tuple #[.bool false, .int .i64 x]) ∧ Keeps Non w w' := by
  have HM := hide (meet_no a b n cap m cap2 p q w h h2 hg hg2 x he hx)
  have hx2 : (x == 0) = false := by simpa using hx
  clear h h2 hg hg2 he
  go_enter Try.func32, Try.ntmps32
  go_wp2_with fail
  refine HM.out.mono ?_
  rintro e w2 ⟨rfl, hk⟩
  go_wp2_with fail
  go_ret2
  exact ⟨rfl, hk⟩
end Go.Proofs.Ytkcbahfmdokalaa
