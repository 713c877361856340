/-
  Walks over layer 6: Members. No condition.
-/
import Derived.Test.YtkcbahfmdokalaaL
import Derived.Maps.AppendAt
namespace Go.Proofs.Ytkcbahfmdokalaa
open Go.RowKit
attribute [local go_sem] onto_cell onto_frozen
set_option linter.unusedVariables false
theorem owns_lt {w : World} {B e n : Nat} {v : Value} {xs : List Value} (h : w.ownsRow B e 1 v n xs) : ∀ g, v.ownBlock = some g → B ≤ g ∧ g < w.heap.size := by
  obtain ⟨_, h2⟩ := h
  rcases h2 with ⟨rfl, rfl⟩ | ⟨g, cap, cur, rfl, hg, hh, _⟩
  · intro k hk; simp [Value.ownBlock] at hk
  · intro k hk
    simp only [Value.ownBlock, Option.some.injEq] at hk
    subst hk
    exact ⟨hg, (Array.getElem?_eq_some_iff.1 hh).1⟩
theorem owns_slice {w : World} {B e n : Nat} {v : Value} {xs : List Value} (h : w.ownsRow B e 1 v n xs) : ∃ a c, v = .slice a n c := by
  obtain ⟨_, h2⟩ := h
  rcases h2 with ⟨rfl, rfl⟩ | ⟨g, cap, cur, rfl, hg, hh, _⟩
  · exact ⟨_, _, rfl⟩
  · exact ⟨_, _, rfl⟩
theorem owns_of_block {w w' : World} {B e n : Nat} {v : Value} {xs : List Value} (h : w.ownsRow B e 1 v n xs) (hb : ∀ g, v.ownBlock = some g → w'.heap[g]? = w.heap[g]?) : w'.ownsRow B e 1 v n xs := by
  obtain ⟨hl, h2⟩ := h
  refine ⟨hl, h2.imp id ?_⟩
  rintro ⟨g, cap, cur, rfl, hg, hh, r⟩
  exact ⟨g, cap, cur, rfl, hg, (hb g rfl).trans hh, r⟩
/-- Rows of the call's own, in a row of its own, no two of which lie in one block. -/
structure RowsAt (w : World) (B : Nat) (S : List Value) (xss : List (List Int)) : Prop where
  blk : Blk w B S 22
  len : S.length = xss.length
  row : ∀ i, i < xss.length → ∃ v, S[i]? = some v ∧ w.ownsRow (B + 1) 3 1 v (xss.getD i []).length ((xss.getD i []).map (Value.int .i64))
  apart : ∀ (i j : Nat) (v v' : Value), i ≠ j → S[i]? = some v → S[j]? = some v' → ∀ g, v.ownBlock = some g → v'.ownBlock ≠ some g
theorem RowsAt.keeps {w w' : World} {B : Nat} {S : List Value} {xss : List (List Int)} (h : RowsAt w B S xss) (k : Keeps Non w w') : RowsAt w' B S xss :=
  ⟨h.blk.keeps k (fun x => x), h.len, fun i hi => by
    obtain ⟨v, h1, h2⟩ := h.row i hi
    exact ⟨v, h1, owns_keeps h2 k (fun _ _ x => x)⟩, h.apart⟩
theorem RowsAt.rows {w : World} {B : Nat} {S : List Value} {xss : List (List Int)} (h : RowsAt w B S xss) (h1 : xss.length ≤ 17592186044416) (h2 : ∀ i, (xss.getD i []).length ≤ 17592186044416) : Rows w (some ⟨B, 0, none⟩) xss.length xss :=
  ⟨rfl, h1, .inr ⟨B, 0, rfl, h.blk.lt, fun i hi => by
    obtain ⟨v, hv, ho⟩ := h.row i hi
    obtain ⟨a, cap, rfl, hI⟩ := ints_of_owns ho (h2 i)
    refine ⟨a, cap, ?_, hI⟩
    rw [h.blk.cell, Nat.zero_add]
    exact hv⟩⟩
theorem getD_set {α : Type} {xs : List α} {d x : α} {i j : Nat} (h : i < xs.length) : (xs.set i x).getD j d = if i = j then x else xs.getD j d := by
  rw [List.getD_eq_getElem?_getD, List.getElem?_set, List.getD_eq_getElem?_getD]
  by_cases hij : i = j
  · subst hij
    rw [if_pos rfl, if_pos h, if_pos rfl]
    rfl
  · rw [if_neg hij, if_neg hij]
/-- One row is made anew. -/
theorem RowsAt.put {w w1 w2 : World} {B : Nat} {S : List Value} {xss : List (List Int)} (h : RowsAt w B S xss) {b : Nat} (hb : b < xss.length) {v v' : Value} (hv : S[b]? = some v) (k : Keeps Non w w1) {ys : List Int}
    (hown : w2.ownsRow (B + 1) 3 1 v' ys.length (ys.map (Value.int .i64))) (hgrow : w1.grownBy w2 v.ownBlock) (hat : v'.ownBlock = v.ownBlock ∨ (∀ g, v'.ownBlock = some g → w.heap.size ≤ g)) :
    RowsAt (w2.setCell ⟨B, b, none⟩ v') B (S.set b v') (xss.set b ys) := by
  have hbl : b < S.length := by rw [h.len]; exact hb
  obtain ⟨v0, hv0, ho0⟩ := h.row b hb
  rw [hv] at hv0
  cases hv0
  have hvl := owns_lt ho0
  have hB2 : Blk w2 B S 22 := (h.blk.keeps k (fun x => x)).of_eq (hgrow.block B (h.blk.keeps k (fun x => x)).lt (fun e => by
    have := hvl B e.symm
    omega))
  refine ⟨hB2.store b v', by simp [h.len], fun i hi => ?_, fun i j x y hij hx hy g hg hg2 => ?_⟩
  · rw [List.length_set] at hi
    rw [getD_set hb]
    by_cases hbi : b = i
    · subst hbi
      refine ⟨v', by simp [hbl], ?_⟩
      rw [if_pos rfl]
      refine owns_of_block hown fun g hg => ?_
      have := owns_lt hown g hg
      exact Below.heap_setCell _ _ _ _ (by show g ≠ B; omega)
    · rw [if_neg hbi]
      obtain ⟨u, hu, ho⟩ := h.row i hi
      refine ⟨u, by rw [List.getElem?_set, if_neg hbi]; exact hu, ?_⟩
      refine owns_of_block ho fun g hg => ?_
      have h1 := owns_lt ho g hg
      have h2 : w2.heap[g]? = w1.heap[g]? := hgrow.block g (Nat.lt_of_lt_of_le h1.2 k.size) (fun e => h.apart b i v u hbi hv hu g e.symm hg)
      rw [Below.heap_setCell _ _ _ _ (by show g ≠ B; omega), h2]
      exact k.block g h1.2 (fun x => x)
  · rw [List.getElem?_set] at hx hy
    by_cases hbi : b = i
    · subst hbi
      rw [if_pos rfl, if_pos hbl] at hx
      cases hx
      rw [if_neg hij] at hy
      rcases hat with h1 | h1
      · exact h.apart b j v y hij hv hy g (by rw [← h1]; exact hg) hg2
      · have h2 := h1 g hg
        obtain ⟨y0, hy0, hoy⟩ := h.row j (by
          have := (List.getElem?_eq_some_iff.1 hy).1
          rw [← h.len]
          exact this)
        rw [hy] at hy0
        cases hy0
        have := owns_lt hoy g hg2
        omega
    · rw [if_neg hbi] at hx
      by_cases hbj : b = j
      · subst hbj
        rw [if_pos rfl, if_pos hbl] at hy
        cases hy
        rcases hat with h1 | h1
        · exact h.apart i b x v hij hx hv g hg (by rw [← h1]; exact hg2)
        · have h2 := h1 g hg2
          obtain ⟨x0, hx0, hox⟩ := h.row i (by
            have := (List.getElem?_eq_some_iff.1 hx).1
            rw [← h.len]
            exact this)
          rw [hx] at hx0
          cases hx0
          have := owns_lt hox g hg
          omega
      · rw [if_neg hbj] at hy
        exact h.apart i j x y hij hx hy g hg hg2
/-- Lists of a call's own that come back. -/
def NewRows (w w' : World) (v : Value) (xss : List (List Int)) : Prop := ∃ B S, v = .slice (some ⟨B, 0, none⟩) xss.length xss.length ∧ w.heap.size ≤ B ∧ RowsAt w' B S xss ∧ Keeps Non w w'
theorem info22 : (Try.prog.info? 22).map (fun i => (i.zero, i.size, i.bytes)) = some (some (.slice none 0 0), 1, 24) := by kernel_rfl
theorem info22_parts : ∃ i, Try.prog.info? 22 = some i ∧ i.zero = some (.slice none 0 0) ∧ i.size = 1 ∧ i.bytes = 24 := by
  have h := info22
  cases hq : Try.prog.info? 22 with
  | none => rw [hq] at h; simp at h
  | some i =>
    rw [hq] at h
    simp only [Option.map_some, Option.some.injEq, Prod.mk.injEq] at h
    exact ⟨i, rfl, h.1, h.2.1, h.2.2⟩
theorem make36 (w : World) (n : Nat) (hn : n ≤ 100000) : (Instr.makeSlice 36 (.int .i64 (n : Int)) (.int .i64 (n : Int))).run Try.prog w = .ok (.slice (some ⟨w.heap.size, 0, none⟩) n n) (w.alloc (.cells (List.replicate n (Value.slice none 0 0)).toArray 22)) := by
  obtain ⟨i, h1, h2, h3, h4⟩ := info22_parts
  have := run_makeSlice (P := Try.prog) w 36 22 i (.slice none 0 0) Try.underlying36 h1 h2 .i64 .i64 (n : Int) (n : Int) (by omega) (by omega) (by rw [h3]; simp; omega) (by rw [h4]; simp; omega) (by omega)
  rw [this, h3]
  simp only [Int.toNat_natCast, Nat.mul_one]
  rw [show (Value.slice none 0 0).cells = #[.slice none 0 0] from rfl, made_list]
theorem rowsAt_made (w : World) {n B : Nat} (hB : w.heap.size = B) : RowsAt (w.alloc (.cells (List.replicate n (Value.slice none 0 0)).toArray 22)) B (List.replicate n (Value.slice none 0 0)) (List.replicate n []) := by
  refine ⟨Blk.newAt w _ 22 hB.symm, by simp, fun i hi => ?_, fun i j v v' _ hi _ g hg => ?_⟩
  · rw [List.length_replicate] at hi
    refine ⟨.slice none 0 0, by rw [List.getElem?_replicate, if_pos hi], ?_⟩
    have e : (List.replicate n ([] : List Int)).getD i [] = [] := by
      rw [List.getD_eq_getElem?_getD, List.getElem?_replicate, if_pos hi]
      rfl
    rw [e]
    exact World.ownsRow_nil _ _ _ _
  · rw [List.getElem?_replicate] at hi
    split at hi
    · cases hi
      simp [Value.ownBlock] at hg
    · cases hi
/-- The members of each block among the first k elements. -/
def memAt (p : List Int) (k : Nat) : List (List Int) := (List.range (cnt p)).map fun (b : Nat) => ((List.range k).filter fun i => p.getD i 0 = (b : Int)).map fun (i : Nat) => (i : Int)
def membersL (p : List Int) : List (List Int) := memAt p p.length
theorem memAt_length (p : List Int) (k : Nat) : (memAt p k).length = cnt p := by simp [memAt]
theorem memAt_at {p : List Int} {k b : Nat} (hb : b < cnt p) : (memAt p k).getD b [] = ((List.range k).filter fun i => p.getD i 0 = (b : Int)).map fun (i : Nat) => (i : Int) := by
  rw [getD_numL (by rw [memAt_length]; exact hb)]
  simp [memAt]
theorem memAt_zero (p : List Int) : memAt p 0 = List.replicate (cnt p) [] := by
  apply List.ext_getElem?
  intro b
  rw [List.getElem?_replicate]
  by_cases hb : b < cnt p
  · rw [if_pos hb, List.getElem?_eq_getElem (by rw [memAt_length]; exact hb), ← getD_numL (d := []) (by rw [memAt_length]; exact hb), memAt_at hb]
    rfl
  · rw [if_neg hb, List.getElem?_eq_none (by rw [memAt_length]; omega)]
theorem memAt_succ {p : List Int} {k b : Nat} (hb : b < cnt p) (hp : p.getD k 0 = (b : Int)) : memAt p (k + 1) = (memAt p k).set b ((memAt p k).getD b [] ++ [(k : Int)]) := by
  apply List.ext_getElem?
  intro c
  rw [List.getElem?_set]
  by_cases hc : c < cnt p
  · rw [List.getElem?_eq_getElem (by rw [memAt_length]; exact hc), ← getD_numL (d := []) (by rw [memAt_length]; exact hc), memAt_at hc, List.range_succ, List.filter_append, List.map_append]
    by_cases hbc : b = c
    · subst hbc
      rw [if_pos rfl, if_pos (by rw [memAt_length]; exact hb), memAt_at hb, List.filter_cons_of_pos (by rw [hp]; simp)]
      rfl
    · rw [if_neg hbc, List.getElem?_eq_getElem (by rw [memAt_length]; exact hc), ← getD_numL (d := []) (by rw [memAt_length]; exact hc), memAt_at hc]
      have : ¬ p.getD k 0 = (c : Int) := by rw [hp]; omega
      simp only [List.filter_cons, List.filter_nil, decide_eq_true_eq, if_neg this, List.map_nil, List.append_nil]
  · rw [List.getElem?_eq_none (by rw [memAt_length]; omega)]
    by_cases hbc : b = c
    · subst hbc
      exact absurd hb hc
    · rw [if_neg hbc, List.getElem?_eq_none (by rw [memAt_length]; omega)]
theorem memAt_short (p : List Int) (k i : Nat) : ((memAt p k).getD i []).length ≤ k := by
  by_cases hb : i < cnt p
  · rw [memAt_at hb, List.length_map]
    have := List.length_filter_le (fun i' => decide (p.getD i' 0 = (i : Int))) (List.range k)
    rw [List.length_range] at this
    exact this
  · rw [List.getD_eq_getElem?_getD, List.getElem?_eq_none (by rw [memAt_length]; omega)]
    simp
set_option maxRecDepth 100000 in
set_option maxHeartbeats 4000000 in
theorem members_yes (a : Option Addr) (n cap : Nat) (p : List Int) (w : World) (h : Ints w a n p) (hg : Good p) (hr : rightB p = true) :
    Calls Try.prog 36 #[.slice a n cap] w fun e w' => ∃ v, e = .returned (.tuple #[v, .int .i64 0]) ∧ NewRows w w' v (membersL p) := by
  obtain rfl := h.len
  obtain ⟨hn, hp⟩ := rightB_iff.1 hr
  have HR := hide (right_at a p.length cap p true w h hg hr)
  have HC : Hid (∀ w', Keeps Non w w' → Calls Try.prog 55 #[.slice a p.length cap] w' fun e w2 => e = .returned (.int .i64 (cnt p)) ∧ Keeps Non w' w2) := fun w' hk => count_l a p.length cap p w' (h.non hk) hp hn
  obtain ⟨i0, hi, hz0, hz1, hz2⟩ := info3_parts
  have HX := hide h
  have HP := hide hp
  obtain ⟨n, hn2⟩ : ∃ n, p.length = n := ⟨_, rfl⟩
  have HN := hide hn2
  have hcn := cnt_le_length p
  obtain ⟨c, hc⟩ : ∃ c, cnt p = c := ⟨_, rfl⟩
  have HCn := hide hc
  rw [hn2] at hn HR HC hcn HX ⊢
  rw [hc] at HC hcn
  clear h hg hr hp hn2 hc
  go_enter Try.func36, Try.ntmps36
  go_wp2_with fail
  refine HR.out.mono ?_
  rintro e w2 ⟨rfl, hk⟩
  have HK := hide hk
  have HC2 := hide (HC.out w2 hk)
  clear hk HC HR
  go_wp2_with fail
  refine HC2.out.mono ?_
  rintro e w3 ⟨rfl, hk3⟩
  have HK3 := hide (HK.out.then hk3)
  have hms := make36 w3 c (by omega)
  obtain ⟨B, hB⟩ : ∃ B, w3.heap.size = B := ⟨_, rfl⟩
  have HBs : Hid (w.heap.size ≤ B) := by
    have := HK3.out.size
    show _ ≤ _
    omega
  have HA0 := hide (rowsAt_made w3 (n := c) hB)
  have HK4 := hide (HK3.out.alloc (.cells (List.replicate c (Value.slice none 0 0)).toArray 22))
  clear hk3 HC2
  go_wp2_with fail
  obtain ⟨W, hW⟩ : ∃ W, w3.alloc (.cells (List.replicate c (Value.slice none 0 0)).toArray 22) = W := ⟨_, rfl⟩
  have hW2 := hW
  simp only [List.toArray_replicate] at hW2
  first | rw [hW] | rw [hW2]
  rw [hW] at HA0 HK4 hms
  try rw [hB]
  clear hW hW2 hB hms
  go_loopw [15] (fun i wr => ∃ (k : Nat) (S : List Value), k ≤ n ∧ i = .int .i64 k ∧ Hid (RowsAt wr B S (memAt p k)) ∧ Hid (Keeps Non w wr)) (fun i _ => n - (intOf i).toNat)
  case atStart => exact ⟨0, _, by omega, rfl, by rw [memAt_zero, HCn.out]; exact HA0.out, HK4.out⟩
  case round =>
    clear HA0 HK4 HK3 HK
    obtain ⟨k, S, hk, rfl, HA, HKr⟩ := hrel
    by_cases hlt : k < n
    · obtain ⟨b1, o1, rfl, hb1, hc1⟩ := (HX.out.non HKr.out).at (by omega)
      have c1 := hc1 k hlt
      have hpb := numb_bound p (p.getD k 0) (by rw [HP.out]; exact getD_mem (by rw [HN.out]; exact hlt))
      obtain ⟨x, hx⟩ : ∃ x, p.getD k 0 = x := ⟨_, rfl⟩
      rw [hx] at c1 hpb
      obtain ⟨b, rfl⟩ : ∃ b : Nat, x = b := ⟨x.toNat, by omega⟩
      have hbc : b < c := by rw [← HCn.out]; show _ < (firsts [] p).length; omega
      have hml : (memAt p k).length = c := by rw [memAt_length, HCn.out]
      obtain ⟨v, hv, ho⟩ := HA.out.row b (by omega)
      have hsh := memAt_short p k b
      have HO := hide ho
      have HV := hide hv
      have HS := hide (memAt_succ (p := p) (k := k) (b := b) (by rw [HCn.out]; exact hbc) hx)
      have cb : wr.cell? ⟨B, b, none⟩ = some v := by rw [HA.out.blk.cell]; exact hv
      have fb := HA.out.blk.free b none
      have lb := HA.out.blk.lt
      have z0 : (0 : Int) ≤ (b : Int) := by omega
      have z1 : (b : Int) < (c : Int) := by omega
      have k0 : (0 : Int) ≤ (k : Int) := by omega
      have k1 : (k : Int) < (n : Int) := by omega
      obtain ⟨ys, hys⟩ : ∃ ys, (memAt p k).getD b [] = ys := ⟨_, rfl⟩
      obtain ⟨q, hq⟩ : ∃ q, ys.length = q := ⟨_, rfl⟩
      rw [hys] at HO HS hsh
      rw [hq] at HO hsh
      have HQ := hide hq
      clear hc1 hx hpb hml hv ho hys hq
      go_wp2_with (at_builtin; refine wpList_append_own_at _ rfl _ _ 22 rfl (B + 1) 3 i0 (.int .i64 0) 1 8 Try.underlying22 hi hz0 hz1 hz2 rfl (by decide) v q (ys.map (Value.int .i64)) rfl (owns_keeps HO.out ((Keeps.refl Non _).alloc _) (fun _ _ x => x)) ⟨wr.heap.size, 0, none⟩ 1 1 [.int .i64 k] rfl ?qc1 ?qc2 ?qc3 ?qc4 ?qc5 ?qc6 ?_)
      case qc1 => rfl
      case qc2 => exact cell_one_new _ _ _
      case qc3 => intro u hu; simp at hu; subst hu; rfl
      case qc4 => unfold maxLen; omega
      case qc5 => omega
      case qc6 => simp; omega
      intro v' w5 hown hgrow hnil hat
      have hgB : some B ≠ v.ownBlock := fun e => by
        have := own_ge HO.out B e.symm
        omega
      have cb5 : w5.cell? ⟨B, b, none⟩ = some v := (World.cell?_of_block (w := wr.alloc (.cells #[.int .i64 k] 3)) (hgrow.block B (by simp; omega) hgB)).trans ((((Keeps.refl Non wr).alloc (.cells #[.int .i64 k] 3)).cell (p := ⟨B, b, none⟩) lb (fun x => x)).trans cb)
      have fb5 : w5.frozen? ⟨B, b, none⟩ = false := (World.frozen?_of_block (w := wr.alloc (.cells #[.int .i64 k] 3)) (hgrow.block B (by simp; omega) hgB)).trans ((((Keeps.refl Non wr).alloc (.cells #[.int .i64 k] 3)).frozen (p := ⟨B, b, none⟩) lb (fun x => x)).trans fb)
      have lb5 : B < w5.heap.size := by have := hgrow.size; simp at this; omega
      have HAn : Hid (RowsAt (w5.setCell ⟨B, b, none⟩ v') B (S.set b v') (memAt p (k + 1))) := by
        show RowsAt _ _ _ _
        rw [HS.out]
        refine HA.out.put (by rw [memAt_length, HCn.out]; exact hbc) HV.out ((Keeps.refl Non wr).alloc _) ?_ hgrow (hat.imp id fun e g hg => ?_)
        · rw [List.length_append, List.map_append, HQ.out]
          exact hown
        · rw [e] at hg
          cases hg
          simp
      have HKn : Hid (Keeps Non w (w5.setCell ⟨B, b, none⟩ v')) := (keeps_grown (HKr.out.alloc _) hgrow (fun g hg => .inr (by have := own_ge HO.out g hg; have := HBs.out; omega))).set (.inr HBs.out) _
      obtain ⟨a5, c5, rfl⟩ := owns_slice hown
      clear hown hgrow hnil hat hgB
      go_wp2_with fail
      go_roundw
      case rel => exact ⟨k + 1, _, by omega, by go_num, HAn.out, HKn.out⟩
      case measure => simp [intOf]; omega
    · have hkn : k = n := by omega
      subst hkn
      have y9 : ¬ (k : Int) < (k : Int) := by omega
      have HE : Hid (NewRows w wr (.slice (some ⟨B, 0, none⟩) c c) (membersL p)) := by
        refine ⟨B, S, by rw [membersL, memAt_length, HCn.out], HBs.out, ?_, HKr.out⟩
        rw [membersL, HN.out]
        exact HA.out
      go_wp2_with fail
      go_ret2
      exact ⟨_, rfl, HE.out⟩
theorem members_no (a : Option Addr) (n cap : Nat) (p : List Int) (w : World) (h : Ints w a n p) (hg : Good p) (hr : rightB p = false) :
    Calls Try.prog 36 #[.slice a n cap] w fun e w' => e = .returned (.tuple #[.slice none 0 0, .int .i64 60]) ∧ Keeps Non w w' := by
  have HR := hide (right_at a n cap p false w h hg hr)
  clear h hg hr
  go_enter Try.func36, Try.ntmps36
  go_wp2_with fail
  refine HR.out.mono ?_
  rintro e w2 ⟨rfl, hk⟩
  go_wp2_with fail
  go_ret2
  exact ⟨rfl, hk⟩
end Go.Proofs.Ytkcbahfmdokalaa
