/-
  Walks over layer 1: Of. No condition.
-/
import Derived.Test.YtoogopcaieodoaaD
namespace Go.Proofs.Ytoogopcaieodoaa
open Go.RowKit
attribute [local go_sem] onto_cell onto_frozen
/-- The words of a set, as cells. -/
def wl (m : Mk) : List Value := [.int .u64 m.w0, .int .u64 m.w1, .int .u64 m.w2, .int .u64 m.w3]
/-- A set with one more byte. -/
def addB (m : Mk) (c : Int) : Mk :=
  if c / 64 = 0 then ⟨bits .or .u64 m.w0 (IntKind.u64.wrap (2 ^ (c % 64).toNat)), m.w1, m.w2, m.w3⟩
  else if c / 64 = 1 then ⟨m.w0, bits .or .u64 m.w1 (IntKind.u64.wrap (2 ^ (c % 64).toNat)), m.w2, m.w3⟩
  else if c / 64 = 2 then ⟨m.w0, m.w1, bits .or .u64 m.w2 (IntKind.u64.wrap (2 ^ (c % 64).toNat)), m.w3⟩
  else ⟨m.w0, m.w1, m.w2, bits .or .u64 m.w3 (IntKind.u64.wrap (2 ^ (c % 64).toNat))⟩
/-- The set with some bytes. -/
def setOf (l : List Int) : Mk := l.foldl addB ⟨0, 0, 0, 0⟩
theorem setOf_next (l : List Int) (k : Nat) (hk : k < l.length) : setOf (l.take (k + 1)) = addB (setOf (l.take k)) (l.getD k 0) := by
  have e : l.getD k 0 = l[k] := by
    rw [List.getD_eq_getElem?_getD, List.getElem?_eq_getElem hk]
    rfl
  rw [e, List.take_succ_eq_append_getElem hk]
  simp only [setOf, List.foldl_append, List.foldl_cons, List.foldl_nil]
set_option maxHeartbeats 2000000 in
theorem of_any (b cap : Nat) (l : List Int) (w : World) (h : Blk w b (l.map (Value.int .u8)) 5) (hl : ∀ i, i < l.length → 0 ≤ l.getD i 0 ∧ l.getD i 0 ≤ 255) (hlen : l.length ≤ 1000) :
    Calls Try.prog 24 #[.slice (some ⟨b, 0, none⟩) l.length cap] w fun e w' => e = .returned (setV (setOf l)) ∧ Keeps Non w w' := by
  obtain ⟨n, hn⟩ : ∃ n, l.length = n := ⟨_, rfl⟩
  rw [hn]
  rw [hn] at hlen
  obtain ⟨M, hM⟩ : ∃ M, setOf l = M := ⟨_, rfl⟩
  rw [hM]
  have HM := hide hM
  clear hM
  have HN := hide hn
  have HH := hide h
  have HL := hide hl
  have hbl := h.lt
  clear hn h hl
  unfold setV
  go_enter Try.func24, Try.ntmps24
  go_wp2_with fail
  go_loopw [8] (fun i wr => ∃ k : Nat, k ≤ n ∧ i = .int .i64 k ∧ Hid (Keeps Non w wr) ∧ Hid (Blk wr w.heap.size (wl ⟨0, 0, 0, 0⟩) 24) ∧ Hid (Blk wr (w.heap.size + 1) (wl (setOf (l.take k))) 24)) (fun i _ => n - (intOf i).toNat)
  case atStart =>
    refine ⟨0, by omega, rfl, ((Keeps.refl _ _).alloc _).alloc _, (Blk.new w (wl ⟨0, 0, 0, 0⟩) 24).alloc _, ?_⟩
    exact Blk.newAt _ (wl ⟨0, 0, 0, 0⟩) 24 (by show _ = (w.heap.push _).size; simp)
  case round =>
    obtain ⟨k, hk, rfl, hK, hR, hS⟩ := hrel
    by_cases hlt : k < n
    · obtain ⟨m, hm⟩ : ∃ m, setOf (l.take k) = m := ⟨_, rfl⟩
      rw [hm] at hS
      have HX := hide (setOf_next l k (by rw [HN.out]; exact hlt))
      rw [hm] at HX
      obtain ⟨c, hc⟩ : ∃ c, l.getD k 0 = c := ⟨_, rfl⟩
      rw [hc] at HX
      have HNe : Hid ((w.heap.size : Nat) ≠ w.heap.size + 1) := Nat.ne_of_lt (Nat.lt_succ_self _)
      have hbd := HL.out k (by rw [HN.out]; exact hlt)
      rw [hc] at hbd
      obtain ⟨bd0, bd1⟩ := hbd
      have hcell : wr.cell? ⟨b, k, none⟩ = some (.int .u8 c) := by
        have h1 := (HH.out.keeps hK.out (fun x => x)).cell k
        have h2 : k < l.length := by rw [HN.out]; exact hlt
        rw [h1, List.getElem?_map, List.getElem?_eq_getElem h2, ← hc, List.getD_eq_getElem?_getD, List.getElem?_eq_getElem h2]
        rfl
      have lS := hS.out.lt
      have s0 : wr.cell? ⟨w.heap.size + 1, 0, none⟩ = some (.int .u64 m.w0) := hS.out.cell 0
      have s1 : wr.cell? ⟨w.heap.size + 1, 1, none⟩ = some (.int .u64 m.w1) := hS.out.cell 1
      have s2 : wr.cell? ⟨w.heap.size + 1, 2, none⟩ = some (.int .u64 m.w2) := hS.out.cell 2
      have s3 : wr.cell? ⟨w.heap.size + 1, 3, none⟩ = some (.int .u64 m.w3) := hS.out.cell 3
      have f0 := hS.out.free 0 none
      have f1 := hS.out.free 1 none
      have f2 := hS.out.free 2 none
      have f3 := hS.out.free 3 none
      have y0 : (0 : Int) ≤ (k : Int) := by omega
      have y1 : (k : Int) < (n : Int) := by omega
      have lb : b < wr.heap.size := Nat.lt_of_lt_of_le hbl hK.out.size
      have e : c / 64 = 0 ∨ c / 64 = 1 ∨ c / 64 = 2 ∨ c / 64 = 3 := by omega
      rcases e with e | e | e | e
      · have HA : Hid (wl (addB m c) = (wl m).set 0 (.int .u64 (bits .or .u64 m.w0 (IntKind.u64.wrap (2 ^ (c % 64).toNat))))) := by
          unfold addB
          simp [Hid, wl, e]
        go_wp2_with fail
        go_round
        case rel => exact ⟨k + 1, by omega, by go_num, hK.out.set (.inr (by omega)) _, hR.out.other HNe.out _, by
          rw [HX.out, HA.out]
          exact hS.out.store 0 _⟩
        case measure => simp [intOf]; omega
      · have HA : Hid (wl (addB m c) = (wl m).set 1 (.int .u64 (bits .or .u64 m.w1 (IntKind.u64.wrap (2 ^ (c % 64).toNat))))) := by
          unfold addB
          simp [Hid, wl, e]
        go_wp2_with fail
        go_round
        case rel => exact ⟨k + 1, by omega, by go_num, hK.out.set (.inr (by omega)) _, hR.out.other HNe.out _, by
          rw [HX.out, HA.out]
          exact hS.out.store 1 _⟩
        case measure => simp [intOf]; omega
      · have HA : Hid (wl (addB m c) = (wl m).set 2 (.int .u64 (bits .or .u64 m.w2 (IntKind.u64.wrap (2 ^ (c % 64).toNat))))) := by
          unfold addB
          simp [Hid, wl, e]
        go_wp2_with fail
        go_round
        case rel => exact ⟨k + 1, by omega, by go_num, hK.out.set (.inr (by omega)) _, hR.out.other HNe.out _, by
          rw [HX.out, HA.out]
          exact hS.out.store 2 _⟩
        case measure => simp [intOf]; omega
      · have HA : Hid (wl (addB m c) = (wl m).set 3 (.int .u64 (bits .or .u64 m.w3 (IntKind.u64.wrap (2 ^ (c % 64).toNat))))) := by
          unfold addB
          simp [Hid, wl, e]
        go_wp2_with fail
        go_round
        case rel => exact ⟨k + 1, by omega, by go_num, hK.out.set (.inr (by omega)) _, hR.out.other HNe.out _, by
          rw [HX.out, HA.out]
          exact hS.out.store 3 _⟩
        case measure => simp [intOf]; omega
    · have hkn : k = n := by omega
      replace hS : Hid (Blk wr (w.heap.size + 1) (wl (setOf l)) 24) := by
        have h := hS.out
        rw [List.take_of_length_le (by rw [HN.out]; omega)] at h
        exact h
      rw [HM.out] at hS
      clear HM
      have lS := hS.out.lt
      have s0 : wr.cell? ⟨w.heap.size + 1, 0, none⟩ = some (.int .u64 M.w0) := hS.out.cell 0
      have s1 : wr.cell? ⟨w.heap.size + 1, 1, none⟩ = some (.int .u64 M.w1) := hS.out.cell 1
      have s2 : wr.cell? ⟨w.heap.size + 1, 2, none⟩ = some (.int .u64 M.w2) := hS.out.cell 2
      have s3 : wr.cell? ⟨w.heap.size + 1, 3, none⟩ = some (.int .u64 M.w3) := hS.out.cell 3
      have lR := hR.out.lt
      have r0 : wr.cell? ⟨w.heap.size, 0, none⟩ = some (.int .u64 0) := hR.out.cell 0
      have r1 : wr.cell? ⟨w.heap.size, 1, none⟩ = some (.int .u64 0) := hR.out.cell 1
      have r2 : wr.cell? ⟨w.heap.size, 2, none⟩ = some (.int .u64 0) := hR.out.cell 2
      have r3 : wr.cell? ⟨w.heap.size, 3, none⟩ = some (.int .u64 0) := hR.out.cell 3
      have f0 := hR.out.free 0 none
      have f1 := hR.out.free 1 none
      have f2 := hR.out.free 2 none
      have f3 := hR.out.free 3 none
      go_wp2_with fail
      refine bodyPost_ret (v := .agg #[.int .u64 M.w0, .int .u64 M.w1, .int .u64 M.w2, .int .u64 M.w3]) (by simp [results, Try.results24, go_sem, r0, r1, r2, r3]) rfl ⟨rfl, ?_⟩
      exact (((hK.out.set (.inr (Nat.le_refl _)) _).set (.inr (Nat.le_refl _)) _).set (.inr (Nat.le_refl _)) _).set (.inr (Nat.le_refl _)) _
end Go.Proofs.Ytoogopcaieodoaa
