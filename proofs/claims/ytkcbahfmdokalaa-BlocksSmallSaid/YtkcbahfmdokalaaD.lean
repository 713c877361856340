/-
  Walks over layer 6: numbered, over pairs. No condition.
-/
import Derived.Test.YtkcbahfmdokalaaA
import Derived.WideKeyPair
namespace Go.Proofs.Ytkcbahfmdokalaa
open Go.RowKit Go.Maps
attribute [local go_sem] onto_cell onto_frozen
/-- Two integers that fit. -/
abbrev Pr := { p : Int × Int // (Lit.int .i64 p.1).wf = true ∧ (Lit.int .i64 p.2).wf = true }
def p0 : Pr := ⟨(0, 0), by decide, by decide⟩
def kpr (p : Pr) : Lit := .string (keyBytes [.int .i64 p.1.1, .int .i64 p.1.2])
theorem kpr_inj (x y : Pr) (h : kpr x = kpr y) : x = y := by
  obtain ⟨⟨x1, x2⟩, hx⟩ := x
  obtain ⟨⟨y1, y2⟩, hy⟩ := y
  unfold kpr at h
  simp only [Lit.string.injEq] at h
  have e := keyBytes_inj (l := [.int .i64 x1, .int .i64 x2]) (l' := [.int .i64 y1, .int .i64 y2]) ⟨rfl, rfl, trivial⟩ (by
    intro a ha
    simp only [List.mem_cons, List.not_mem_nil, or_false] at ha
    rcases ha with rfl | rfl
    · exact hx.1
    · exact hx.2) (by
    intro a ha
    simp only [List.mem_cons, List.not_mem_nil, or_false] at ha
    rcases ha with rfl | rfl
    · exact hy.1
    · exact hy.2) h
  simp only [List.cons.injEq, Lit.int.injEq, true_and, and_true] at e
  obtain ⟨rfl, rfl⟩ := e
  rfl
/-- Pairs that lie in a row. -/
structure PrsIn (w : World) (a : Option Addr) (n : Nat) (xs : List Pr) : Prop where
  len : xs.length = n
  big : n ≤ 17592186044416
  cell : n = 0 ∨ ∃ b off, a = some ⟨b, off, none⟩ ∧ b < w.heap.size ∧ ∀ i, i < n → w.cell? ⟨b, off + i * 2, none⟩ = some (.int .i64 (xs.getD i p0).1.1) ∧ w.cell? ⟨b, off + i * 2 + 1, none⟩ = some (.int .i64 (xs.getD i p0).1.2)
theorem PrsIn.at {w : World} {a : Option Addr} {n : Nat} {xs : List Pr} (h : PrsIn w a n xs) (hn : 0 < n) : ∃ b off, a = some ⟨b, off, none⟩ ∧ b < w.heap.size ∧ ∀ i, i < n → w.cell? ⟨b, off + i * 2, none⟩ = some (.int .i64 (xs.getD i p0).1.1) ∧ w.cell? ⟨b, off + i * 2 + 1, none⟩ = some (.int .i64 (xs.getD i p0).1.2) :=
  h.cell.resolve_left (by omega)
theorem arr78 : Go.WideMaps.ArrKey Try.prog 78 3 2 := ⟨Try.underlying78, by kernel_rfl, by kernel_rfl, by kernel_rfl⟩
theorem law78 : Keyed Try.prog 78 := Keyed.of_law arr78.law
theorem types_some : ∃ m, Try.prog.types.size = m + 1 := ⟨Try.prog.types.size - 1, by kernel_rfl⟩
set_option maxRecDepth 100000 in
set_option maxHeartbeats 4000000 in
theorem numbered_pair (a : Option Addr) (n cap : Nat) (xs : List Pr) (w : World) (hx : PrsIn w a n xs) (hn : n ≤ 2000) :
    Calls Try.prog 57 #[.slice a n cap] w fun e w' => ∃ b, e = .returned (.slice (some ⟨b, 0, none⟩) n n) ∧ w.heap.size ≤ b ∧ Blk w' b ((numb [] xs).map (Value.int .i64)) 3 ∧ Keeps Non w w' := by
  have HX := hide hx
  have HWk : Hid (∀ x : Pr, WideAt.IsKeyLit (kpr x)) := fun x => ⟨⟩
  clear hx
  have hmm := @run_makeMap Try.prog
  have hms := make22 (w.alloc (.map #[] 0)) n (by omega)
  obtain ⟨B, hB⟩ : ∃ B, w.heap.size = B := ⟨_, rfl⟩
  have HBs := hide hB
  have HM0 : Hid (((w.alloc (.map #[] 0)).alloc (.cells (Array.replicate n (.int .i64 0)) 3)).ownsMap Try.prog 78 (plainElem (H := Unit) Try.prog 3) B 0 (.map [])) := by
    rw [← hB]
    exact (World.ownsMap_made _ _ _ _).alloc _
  have HR0 : Hid (Blk ((w.alloc (.map #[] 0)).alloc (.cells (Array.replicate n (.int .i64 0)) 3)) (B + 1) (rowL [] n) 3) := by
    have e : rowL [] n = List.replicate n (.int .i64 0) := by simp [rowL]
    rw [e, ← List.toArray_replicate]
    exact Blk.newAt (w.alloc (.map #[] 0)) (List.replicate n (.int .i64 0)) 3 (by simp [hB])
  have HK0 := hide (((Keeps.refl Non w).alloc (.map #[] 0)).alloc (.cells (Array.replicate n (.int .i64 0)) 3))
  clear hB
  go_enter Try.func57, Try.ntmps57
  go_wp2_with fail
  rw [HBs.out]
  obtain ⟨W, hW⟩ : ∃ W, (w.alloc (.map #[] 0)).alloc (.cells (Array.replicate n (.int .i64 0)) 3) = W := ⟨_, rfl⟩
  rw [hW] at HM0 HR0 HK0 ⊢
  clear hW hms hmm
  go_loopw [5, 16] (fun c i wr => ∃ (k : Nat) (D : DataW Unit) (met : List Pr) (done : List Int), k ≤ n ∧ i = .int .i64 k ∧ c = .int .i64 met.length ∧ met.length ≤ k ∧ Hid (done.length = k) ∧ Hid (numb [] xs = done ++ numb met (xs.drop k)) ∧ Hid (Says kpr D met) ∧ Hid (wr.ownsMap Try.prog 78 (plainElem Try.prog 3) B k D) ∧ Hid (Blk wr (B + 1) (rowL done n) 3) ∧ Hid (Keeps Non w wr)) (fun _ i _ => n - (intOf i).toNat)
  case atStart => exact ⟨0, .map [], [], [], by omega, rfl, rfl, by simp, rfl, rfl, says_nil _, HM0.out, HR0.out, HK0.out⟩
  case round =>
    clear HM0 HR0 HK0
    obtain ⟨k, D, met, done, hk, rfl, rfl, hm, HD, HNu, HS, HM, HR, HK⟩ := hrel
    by_cases hlt : k < n
    · obtain ⟨bq, off, rfl, hbq, hcell⟩ := HX.out.at (by omega)
      obtain ⟨x, hx⟩ : ∃ x, xs.getD k p0 = x := ⟨_, rfl⟩
      have lq : bq < wr.heap.size := Nat.lt_of_lt_of_le hbq HK.out.size
      have cq : wr.cell? ⟨bq, off + k * 2, none⟩ = some (.int .i64 x.1.1) := by
        rw [HK.out.cell (p := ⟨bq, off + k * 2, none⟩) hbq (fun x => x), (hcell k hlt).1, hx]
      have cq1 : wr.cell? ⟨bq, off + k * 2 + 1, none⟩ = some (.int .i64 x.1.2) := by
        rw [HK.out.cell (p := ⟨bq, off + k * 2 + 1, none⟩) hbq (fun x => x), (hcell k hlt).2, hx]
      have hxl : xs.length = n := HX.out.len
      have hdr : xs.drop k = x :: xs.drop (k + 1) := by
        rw [List.drop_eq_getElem_cons (by omega), ← hx, List.getD_eq_getElem?_getD, List.getElem?_eq_getElem (by omega)]
        rfl
      have hkey : keyOf Try.prog 78 (.agg #[.int .i64 x.1.1, .int .i64 x.1.2]) = some (kpr x) := Go.WideMaps.keyOf_pair arr78 Try.underlying3 types_some x.2.1 x.2.2
      have hrl := rowL_at done n k (by have := HD.out; omega) hlt
      have lr := HR.out.lt
      have cr : wr.cell? ⟨B + 1, k, none⟩ = some (.int .i64 0) := by rw [HR.out.cell]; exact hrl
      have fr := HR.out.free k none
      have cra : (wr.alloc (.cells #[.int .i64 x.1.1, .int .i64 x.1.2] 78)).cell? ⟨B + 1, k, none⟩ = some (.int .i64 0) := by rw [(HR.out.alloc _).cell]; exact hrl
      have k0 : (0 : Int) ≤ (k : Int) := by omega
      have k1 : (k : Int) < (n : Int) := by omega
      have HDr := hide hdr
      clear hcell hrl hdr hx hxl
      by_cases hin : x ∈ met
      · have hhas : has D (kpr x) = true := by
          have := HS.out.2.1 x
          rw [this]
          simpa using hin
        go_wp2_with (at_lookup; refine wpList_lookup_own_ok_int _ rfl _ _ 95 rfl 78 3 .i64 law78 Try.underlying95 Try.underlying3 (zero3 _) B k D rfl (HM.out.alloc _) _ _ rfl hkey ?_; intro c hat hwc; rw [hhas])
        have hce : c = (met.idxOf x : Int) := by
          have h := HS.out.2.2 x hin (.lit (.int .i64 0))
          rw [hat] at h
          simpa using h
        have HNn : Hid (numb [] xs = (done ++ [c]) ++ numb met (xs.drop (k + 1))) := by
          show _ = _
          rw [HNu.out, HDr.out]
          simp only [numb]
          rw [if_pos hin, hce]
          simp
        have HRn : Hid (Blk ((wr.setCell ⟨B + 1, k, none⟩ (.int .i64 c)).alloc (.cells #[.int .i64 x.1.1, .int .i64 x.1.2] 78)) (B + 1) (rowL (done ++ [c]) n) 3) := by
          have h1 := (HR.out.store k (.int .i64 c)).alloc (.cells #[.int .i64 x.1.1, .int .i64 x.1.2] 78)
          have h2 := rowL_set done n c (by have := HD.out; omega)
          rw [HD.out] at h2
          rw [h2] at h1
          exact h1
        go_roundw
        case rel => exact ⟨k + 1, D, met, done ++ [c], by omega, by go_num, rfl, by omega, by show _ = _; rw [List.length_append, HD.out]; rfl, HNn.out, HS.out, (map_other (g := B + 1) (i := k) (HM.out.mono (Nat.le_succ k)) (by omega) (.int .i64 c)).alloc _, HRn.out, (HK.out.set (b := B + 1) (i := k) (.inr (by have := HBs.out; omega)) (.int .i64 c)).alloc _⟩
        case measure => simp [intOf]; omega
      · have hhas : has D (kpr x) = false := by
          have := HS.out.2.1 x
          rw [this]
          simpa using hin
        have hwm : (Lit.int .i64 (met.length : Int)).wf = true := by
          simp only [Lit.wf, Bool.and_eq_true, decide_eq_true_eq]
          constructor
          · show (-9223372036854775808 : Int) ≤ _
            omega
          · show _ ≤ (9223372036854775807 : Int)
            omega
        go_wp2_with (first | (at_lookup; refine wpList_lookup_own_ok_int _ rfl _ _ 95 rfl 78 3 .i64 law78 Try.underlying95 Try.underlying3 (zero3 _) B k D rfl (HM.out.alloc _) _ _ rfl hkey ?_; intro c hat hwc; rw [hhas]) | (at_mapUpdate; refine wpList_mapUpdate_own _ rfl _ _ _ 95 rfl 78 3 law78 Try.underlying95 _ B k D rfl (HM.out.alloc _) (by unfold maxLen; omega) _ _ _ rfl rfl hkey _ [] (plainElem_int Try.underlying3 hwm) ?_; intro w1 hown1 hgrow1; have HR1 := (HR.out.alloc (.cells #[.int .i64 x.1.1, .int .i64 x.1.2] 78)).of_eq (hgrow1.block (B + 1) (HR.out.alloc _).lt (fun e => by simp at e)); have cr1 : w1.cell? ⟨B + 1, k, none⟩ = some (.int .i64 0) := (World.cell?_of_block (hgrow1.block (B + 1) (HR.out.alloc _).lt (fun e => by simp at e))).trans cra; have fr1 := HR1.free k none; have lr1 := HR1.lt))
        have HNn : Hid (numb [] xs = (done ++ [(met.length : Int)]) ++ numb (met ++ [x]) (xs.drop (k + 1))) := by
          show _ = _
          rw [HNu.out, HDr.out]
          simp only [numb]
          rw [if_neg hin]
          simp
        have HRn : Hid (Blk (w1.setCell ⟨B + 1, k, none⟩ (.int .i64 met.length)) (B + 1) (rowL (done ++ [(met.length : Int)]) n) 3) := by
          have h1 := HR1.store k (.int .i64 met.length)
          have h2 := rowL_set done n (met.length : Int) (by have := HD.out; omega)
          rw [HD.out] at h2
          rw [h2] at h1
          exact h1
        have HSn := hide (says_put kpr_inj HWk.out HS.out hin)
        go_roundw
        case rel => exact ⟨k + 1, D.put (kpr x) (.lit (.int .i64 (met.length : Int))), met ++ [x], done ++ [(met.length : Int)], by omega, by go_num, by simp, by simp; omega, by show _ = _; rw [List.length_append, HD.out]; rfl, HNn.out, HSn.out, map_other hown1 (by omega) _, HRn.out, (keeps_grown (HK.out.alloc _) hgrow1 (fun j hj => .inr (by cases hj; have := HBs.out; omega))).set (.inr (by have := HBs.out; omega)) _⟩
        case measure => simp [intOf]; omega
    · have hkn : k = n := by omega
      subst hkn
      have y9 : ¬ (k : Int) < (k : Int) := by omega
      go_wp2_with fail
      go_ret
      refine ⟨B + 1, rfl, by have := HBs.out; omega, ?_, HK.out⟩
      have e : numb [] xs = done := by
        rw [HNu.out, List.drop_of_length_le (by rw [HX.out.len]; exact Nat.le_refl _)]
        simp [numb]
      have h := HR.out
      unfold rowL at h
      rw [HD.out, Nat.sub_self] at h
      rw [e]
      simpa using h
end Go.Proofs.Ytkcbahfmdokalaa
