/-
  Walks over layer 6: numbered, over integers. No condition.
-/
import Derived.Test.YtkcbahfmdokalaaProg
import Derived.Test.YtkcbahfmdokalaaOnto
import Derived.Test.YtkcbahfmdokalaaRow
import Derived.Laws.MakeOwn
import Derived.Maps.Own
import Derived.Maps.OwnOps
import Derived.Maps.OwnSet
import Derived.Maps.Views
import Derived.WalkKit
namespace Go.Proofs.Ytkcbahfmdokalaa
open Go.RowKit Go.Maps
attribute [local go_sem] onto_cell onto_frozen
section
variable {α : Type} [BEq α] [LawfulBEq α] [DecidableEq α]
set_option linter.unusedSectionVars false
/-- Keys numbered in the order in which they come: 'met' are those that came, in order. -/
def numb (met : List α) : List α → List Int
  | [] => []
  | x :: r => if x ∈ met then (met.idxOf x : Int) :: numb met r else (met.length : Int) :: numb (met ++ [x]) r
theorem numb_length : ∀ (L met : List α), (numb met L).length = L.length
  | [], _ => rfl
  | x :: r, met => by
    unfold numb
    split <;> simp [numb_length r]
/-- What the map says of the keys that came. -/
def Says {H : Type} (κ : α → Lit) (D : DataW H) (met : List α) : Prop := IsMap D ∧ (∀ x, has D (κ x) = decide (x ∈ met)) ∧ ∀ x ∈ met, ∀ z, D.atKey (κ x) z = .lit (.int .i64 (met.idxOf x : Int))
theorem says_nil {H : Type} (κ : α → Lit) : Says (H := H) κ (.map []) [] := ⟨isMap_empty, fun l => by simp [has], fun l h => by cases h⟩
theorem says_put {H : Type} {κ : α → Lit} (hinj : ∀ x y, κ x = κ y → x = y) (hk : ∀ x, WideAt.IsKeyLit (κ x)) {D : DataW H} {met : List α} {x : α} (h : Says κ D met) (hn : x ∉ met) : Says κ (D.put (κ x) (.lit (.int .i64 (met.length : Int)))) (met ++ [x]) := by
  obtain ⟨h1, h2, h3⟩ := h
  refine ⟨h1.put _ _, fun l => ?_, fun l hl z => ?_⟩
  · by_cases e : l = x
    · subst e
      rw [has_put_same h1 (hk l)]
      simp
    · rw [has_put_other (fun h => e (hinj _ _ h)), h2 l]
      simp [e]
  · by_cases e : l = x
    · subst e
      rw [atKey_put_same h1 (hk l), List.idxOf_append, if_neg hn]
      simp
    · have hm : l ∈ met := by
        rcases List.mem_append.1 hl with h | h
        · exact h
        · exact absurd (List.mem_singleton.1 h) e
      rw [atKey_put_other (fun h => e (hinj _ _ h)), h3 l hm, List.idxOf_append, if_pos hm]
end
theorem law3 : Keyed Try.prog 3 := int_keyed Try.underlying3
theorem zero3 (w : World) : (zeroValue 3).run Try.prog w = .ok (.int .i64 0) w := by kernel_rfl
theorem info3 : (Try.prog.info? 3).map (fun i => (i.zero, i.size, i.bytes)) = some (some (.int .i64 0), 1, 8) := by kernel_rfl
theorem info3_parts : ∃ i, Try.prog.info? 3 = some i ∧ i.zero = some (.int .i64 0) ∧ i.size = 1 ∧ i.bytes = 8 := by
  have h := info3
  cases hq : Try.prog.info? 3 with
  | none => rw [hq] at h; simp at h
  | some i =>
    rw [hq] at h
    simp only [Option.map_some, Option.some.injEq, Prod.mk.injEq] at h
    exact ⟨i, rfl, h.1, h.2.1, h.2.2⟩
theorem made_list (v : Value) (n : Nat) : madeCells #[v] n = (List.replicate n v).toArray := by
  apply Array.ext_getElem?
  intro i
  unfold madeCells
  by_cases h : i < n
  · simp [h, Nat.mod_one]
  · simp [h]
theorem make22 (w : World) (n : Nat) (hn : n ≤ 100000) : (Instr.makeSlice 22 (.int .i64 (n : Int)) (.int .i64 (n : Int))).run Try.prog w = .ok (.slice (some ⟨w.heap.size, 0, none⟩) n n) (w.alloc (.cells (Array.replicate n (.int .i64 0)) 3)) := by
  obtain ⟨i, h1, h2, h3, h4⟩ := info3_parts
  have := run_makeSlice (P := Try.prog) w 22 3 i (.int .i64 0) Try.underlying22 h1 h2 .i64 .i64 (n : Int) (n : Int) (by omega) (by omega) (by rw [h3]; simp; omega) (by rw [h4]; simp; omega) (by omega)
  rw [this, h3]
  simp only [Int.toNat_natCast, Nat.mul_one]
  rw [show (Value.int IntKind.i64 0).cells = #[.int .i64 0] from rfl, made_list, List.toArray_replicate]
/-- The row that is being filled: what is done, nothing behind it. -/
def rowL (d : List Int) (n : Nat) : List Value := d.map (Value.int .i64) ++ List.replicate (n - d.length) (.int .i64 0)
theorem rowL_length (d : List Int) (n : Nat) (h : d.length ≤ n) : (rowL d n).length = n := by simp [rowL]; omega
theorem rowL_set (d : List Int) (n : Nat) (v : Int) (h : d.length < n) : (rowL d n).set d.length (.int .i64 v) = rowL (d ++ [v]) n := by
  unfold rowL
  have e : List.replicate (n - d.length) (Value.int IntKind.i64 0) = .int .i64 0 :: List.replicate (n - (d.length + 1)) (.int .i64 0) := by
    rw [← List.replicate_succ]
    congr 1
    omega
  rw [e, List.set_append_right _ _ (by simp)]
  simp
theorem rowL_at (d : List Int) (n i : Nat) (h : d.length ≤ i) (hi : i < n) : (rowL d n)[i]? = some (.int .i64 0) := by
  unfold rowL
  rw [List.getElem?_append_right (by simpa using h), List.getElem?_replicate, if_pos (by simp; omega)]
theorem map_other {H : Type} {P : Program} {k : TypeId} {R : Value → Option (DataW H × List MemPlace)} {w : World} {b n g i : Nat} {D : DataW H} (h : w.ownsMap P k R b n D) (hp : b ≠ g) (u : Value) : (w.setCell ⟨g, i, none⟩ u).ownsMap P k R b n D := by
  obtain ⟨es, clock, h1, r⟩ := h
  refine ⟨es, clock, ?_, r⟩
  simp only [World.setCell, Array.getElem?_modify]
  rw [if_neg (fun e => hp e.symm)]
  exact h1
theorem lit_inj (x y : Int) (h : Lit.int .i64 x = Lit.int .i64 y) : x = y := by
  cases h
  rfl
set_option maxRecDepth 100000 in
set_option maxHeartbeats 4000000 in
theorem numbered_int (a : Option Addr) (n cap : Nat) (xs : List Int) (w : World) (hx : Ints w a n xs) (hn : n ≤ 2000) (hwf : ∀ x ∈ xs, (Lit.int .i64 x).wf = true) :
    Calls Try.prog 41 #[.slice a n cap] w fun e w' => ∃ b, e = .returned (.slice (some ⟨b, 0, none⟩) n n) ∧ w.heap.size ≤ b ∧ Blk w' b ((numb [] xs).map (Value.int .i64)) 3 ∧ Keeps Non w w' := by
  have HX := hide hx
  have HWf := hide hwf
  have HWk : Hid (∀ x : Int, WideAt.IsKeyLit (Lit.int .i64 x)) := fun x => ⟨⟩
  clear hx hwf
  have hmm := @run_makeMap Try.prog
  have hms := make22 (w.alloc (.map #[] 0)) n (by omega)
  obtain ⟨B, hB⟩ : ∃ B, w.heap.size = B := ⟨_, rfl⟩
  have HBs := hide hB
  have HM0 : Hid (((w.alloc (.map #[] 0)).alloc (.cells (Array.replicate n (.int .i64 0)) 3)).ownsMap Try.prog 3 (plainElem (H := Unit) Try.prog 3) B 0 (.map [])) := by
    rw [← hB]
    exact (World.ownsMap_made _ _ _ _).alloc _
  have HR0 : Hid (Blk ((w.alloc (.map #[] 0)).alloc (.cells (Array.replicate n (.int .i64 0)) 3)) (B + 1) (rowL [] n) 3) := by
    have e : rowL [] n = List.replicate n (.int .i64 0) := by simp [rowL]
    rw [e, ← List.toArray_replicate]
    exact Blk.newAt (w.alloc (.map #[] 0)) (List.replicate n (.int .i64 0)) 3 (by simp [hB])
  have HK0 := hide (((Keeps.refl Non w).alloc (.map #[] 0)).alloc (.cells (Array.replicate n (.int .i64 0)) 3))
  clear hB
  go_enter Try.func41, Try.ntmps41
  go_wp2_with fail
  rw [HBs.out]
  obtain ⟨W, hW⟩ : ∃ W, (w.alloc (.map #[] 0)).alloc (.cells (Array.replicate n (.int .i64 0)) 3) = W := ⟨_, rfl⟩
  rw [hW] at HM0 HR0 HK0 ⊢
  clear hW hms hmm
  go_loopw [5, 16] (fun c i wr => ∃ (k : Nat) (D : DataW Unit) (met done : List Int), k ≤ n ∧ i = .int .i64 k ∧ c = .int .i64 met.length ∧ met.length ≤ k ∧ Hid (done.length = k) ∧ Hid (numb [] xs = done ++ numb met (xs.drop k)) ∧ Hid (Says (Lit.int .i64) D met) ∧ Hid (wr.ownsMap Try.prog 3 (plainElem Try.prog 3) B k D) ∧ Hid (Blk wr (B + 1) (rowL done n) 3) ∧ Hid (Keeps Non w wr)) (fun _ i _ => n - (intOf i).toNat)
  case atStart => exact ⟨0, .map [], [], [], by omega, rfl, rfl, by simp, rfl, rfl, says_nil _, HM0.out, HR0.out, HK0.out⟩
  case round =>
    clear HM0 HR0 HK0
    obtain ⟨k, D, met, done, hk, rfl, rfl, hm, HD, HNu, HS, HM, HR, HK⟩ := hrel
    by_cases hlt : k < n
    · obtain ⟨bq, off, rfl, hbq, hcell⟩ := HX.out.at (by omega)
      obtain ⟨x, hx⟩ : ∃ x, xs.getD k 0 = x := ⟨_, rfl⟩
      have lq : bq < wr.heap.size := Nat.lt_of_lt_of_le hbq HK.out.size
      have cq : wr.cell? ⟨bq, off + k, none⟩ = some (.int .i64 x) := by
        rw [HK.out.cell (p := ⟨bq, off + k, none⟩) hbq (fun x => x), hcell k hlt, hx]
      have hxl : xs.length = n := HX.out.len
      have hdr : xs.drop k = x :: xs.drop (k + 1) := by
        rw [List.drop_eq_getElem_cons (by omega), ← hx, List.getD_eq_getElem?_getD, List.getElem?_eq_getElem (by omega)]
        rfl
      have hmem : x ∈ xs := by
        have := List.mem_of_mem_drop (l := xs) (i := k) (a := x) (by rw [hdr]; exact List.mem_cons_self ..)
        exact this
      have hkey : keyOf Try.prog 3 (.int .i64 x) = some (.int .i64 x) := keyOf_int_mk Try.underlying3 (HWf.out x hmem)
      have hrl := rowL_at done n k (by have := HD.out; omega) hlt
      have lr := HR.out.lt
      have cr : wr.cell? ⟨B + 1, k, none⟩ = some (.int .i64 0) := by rw [HR.out.cell]; exact hrl
      have fr := HR.out.free k none
      have k0 : (0 : Int) ≤ (k : Int) := by omega
      have k1 : (k : Int) < (n : Int) := by omega
      have HDr := hide hdr
      clear hcell hrl hdr hx hxl
      by_cases hin : x ∈ met
      · have hhas : has D (.int .i64 x) = true := by
          have := HS.out.2.1 x
          rw [this]
          simpa using hin
        go_wp2_with (at_lookup; refine wpList_lookup_own_ok_int _ rfl _ _ 81 rfl 3 3 .i64 law3 Try.underlying81 Try.underlying3 (zero3 _) B k D rfl HM.out _ _ rfl hkey ?_; intro c hat hwc; rw [hhas])
        have hce : c = (met.idxOf x : Int) := by
          have h := HS.out.2.2 x hin (.lit (.int .i64 0))
          rw [hat] at h
          simpa using h
        have HNn : Hid (numb [] xs = (done ++ [c]) ++ numb met (xs.drop (k + 1))) := by
          show _ = _
          rw [HNu.out, HDr.out]
          simp only [numb]
          rw [if_pos hin, hce]
          simp
        have HRn : Hid (Blk (wr.setCell ⟨B + 1, k, none⟩ (.int .i64 c)) (B + 1) (rowL (done ++ [c]) n) 3) := by
          have h1 := HR.out.store k (.int .i64 c)
          have h2 := rowL_set done n c (by have := HD.out; omega)
          rw [HD.out] at h2
          rw [h2] at h1
          exact h1
        go_roundw
        case rel => exact ⟨k + 1, D, met, done ++ [c], by omega, by go_num, rfl, by omega, by show _ = _; rw [List.length_append, HD.out]; rfl, HNn.out, HS.out, map_other (HM.out.mono (Nat.le_succ k)) (by omega) _, HRn.out, HK.out.set (.inr (by have := HBs.out; omega)) _⟩
        case measure => simp [intOf]; omega
      · have hhas : has D (.int .i64 x) = false := by
          have := HS.out.2.1 x
          rw [this]
          simpa using hin
        have hwm : (Lit.int .i64 (met.length : Int)).wf = true := by
          simp only [Lit.wf, Bool.and_eq_true, decide_eq_true_eq]
          constructor
          · show (-9223372036854775808 : Int) ≤ _
            omega
          · show _ ≤ (9223372036854775807 : Int)
            omega
        go_wp2_with (first | (at_lookup; refine wpList_lookup_own_ok_int _ rfl _ _ 81 rfl 3 3 .i64 law3 Try.underlying81 Try.underlying3 (zero3 _) B k D rfl HM.out _ _ rfl hkey ?_; intro c hat hwc; rw [hhas]) | (at_mapUpdate; refine wpList_mapUpdate_own _ rfl _ _ _ 81 rfl 3 3 law3 Try.underlying81 _ B k D rfl HM.out (by unfold maxLen; omega) _ _ _ rfl rfl hkey _ [] (plainElem_int Try.underlying3 hwm) ?_; intro w1 hown1 hgrow1; have HR1 := HR.out.of_eq (hgrow1.block (B + 1) HR.out.lt (fun e => by simp at e)); have cr1 : w1.cell? ⟨B + 1, k, none⟩ = some (.int .i64 0) := (World.cell?_of_block (hgrow1.block (B + 1) lr (fun e => by simp at e))).trans cr; have fr1 := HR1.free k none; have lr1 := HR1.lt))
        have HNn : Hid (numb [] xs = (done ++ [(met.length : Int)]) ++ numb (met ++ [x]) (xs.drop (k + 1))) := by
          show _ = _
          rw [HNu.out, HDr.out]
          simp only [numb]
          rw [if_neg hin]
          simp
        have HRn : Hid (Blk (w1.setCell ⟨B + 1, k, none⟩ (.int .i64 met.length)) (B + 1) (rowL (done ++ [(met.length : Int)]) n) 3) := by
          have h1 := HR1.store k (.int .i64 met.length)
          have h2 := rowL_set done n (met.length : Int) (by have := HD.out; omega)
          rw [HD.out] at h2
          rw [h2] at h1
          exact h1
        have HSn := hide (says_put lit_inj HWk.out HS.out hin)
        go_roundw
        case rel => exact ⟨k + 1, D.put (.int .i64 x) (.lit (.int .i64 (met.length : Int))), met ++ [x], done ++ [(met.length : Int)], by omega, by go_num, by simp, by simp; omega, by show _ = _; rw [List.length_append, HD.out]; rfl, HNn.out, HSn.out, map_other hown1 (by omega) _, HRn.out, (keeps_grown HK.out hgrow1 (fun j hj => .inr (by cases hj; have := HBs.out; omega))).set (.inr (by have := HBs.out; omega)) _⟩
        case measure => simp [intOf]; omega
    · have hkn : k = n := by omega
      subst hkn
      have y9 : ¬ (k : Int) < (k : Int) := by omega
      go_wp2_with fail
      go_ret
      refine ⟨B + 1, rfl, by have := HBs.out; omega, ?_, HK.out⟩
      have e : numb [] xs = done := by
        rw [HNu.out, List.drop_of_length_le (by rw [HX.out.len]; exact Nat.le_refl _)]
        simp [numb]
      have h := HR.out
      unfold rowL at h
      rw [HD.out, Nat.sub_self] at h
      rw [e]
      simpa using h
end Go.Proofs.Ytkcbahfmdokalaa
