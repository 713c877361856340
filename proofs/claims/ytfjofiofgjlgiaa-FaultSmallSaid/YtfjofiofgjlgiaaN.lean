/-
  The walk over FaultWorse: it returns true, and turns nothing that was there. No condition.
-/
import Derived.Test.YtfjofiofgjlgiaaK
namespace Go.Proofs.Ytfjofiofgjlgiaa
open Go.RowKit
theorem worse_pick (a0 a1 b0 b1 : Int) (r0 r1 : Int) (h0 : (bif wK a0 a1 b0 b1 then b0 else a0) = r0) (h1 : (bif wK a0 a1 b0 b1 then b1 else a1) = r1) (w : World) :
    Calls Try.prog 26 #[.agg #[.int .u8 a0, .int .i64 a1], .agg #[.int .u8 b0, .int .i64 b1]] w fun e w' => e = .returned (.agg #[.int .u8 r0, .int .i64 r1]) ∧ Keeps Non w w' :=
  (worse_any a0 a1 b0 b1 w).mono fun e w' ⟨he, hk⟩ => ⟨by rw [he, ← h0, ← h1]; cases wK a0 a1 b0 b1 <;> rfl, hk⟩
theorem rworse_pick (a0 a1 b0 b1 : Int) (r0 r1 : Int) (h0 : (bif wK a0 a1 b0 b1 then b0 else a0) = r0) (h1 : (bif wK a0 a1 b0 b1 then b1 else a1) = r1) (w : World) :
    Calls Try.prog 33 #[.agg #[.int .i64 a0, .int .i64 a1], .agg #[.int .i64 b0, .int .i64 b1]] w fun e w' => e = .returned (.agg #[.int .i64 r0, .int .i64 r1]) ∧ Keeps Non w w' :=
  (rworse_any a0 a1 b0 b1 w).mono fun e w' ⟨he, hk⟩ => ⟨by rw [he, ← h0, ← h1]; cases wK a0 a1 b0 b1 <;> rfl, hk⟩

set_option maxRecDepth 100000 in
set_option maxHeartbeats 1000000 in
theorem law_worse (a0 a1 b0 b1 k : Int) (ha : 0 ≤ a0 ∧ a0 ≤ 255) (hb : 0 ≤ b0 ∧ b0 ≤ 255) (w : World) :
    Calls Try.prog 8 #[.agg #[.int .u8 a0, .int .i64 a1], .agg #[.int .u8 b0, .int .i64 b1], .int .u8 k] w fun e w' => e = .returned (.bool true) ∧ Keeps Non w w' := by
  obtain ⟨ha0, ha1⟩ := ha
  obtain ⟨hb0, hb1⟩ := hb
  obtain ⟨r0, hr0⟩ : ∃ r, (bif wK a0 a1 b0 b1 then b0 else a0) = r := ⟨_, rfl⟩
  obtain ⟨r1, hr1⟩ : ∃ r, (bif wK a0 a1 b0 b1 then b1 else a1) = r := ⟨_, rfl⟩
  have hr2 : 0 ≤ r0 := by rw [← hr0]; cases wK a0 a1 b0 b1 <;> assumption
  have hr3 : r0 ≤ 255 := by rw [← hr0]; cases wK a0 a1 b0 b1 <;> assumption
  have C1 := fun w => hide (worse_pick a0 a1 b0 b1 r0 r1 hr0 hr1 w)
  have C2 := fun w => hide (rworse_pick a0 a1 b0 b1 r0 r1 hr0 hr1 w)
  clear hr0 hr1
  go_enter Try.func8, Try.ntmps8
  go_wp2_with fail
  refine (C1 _).out.mono ?_
  rintro e w1 ⟨rfl, hk1⟩
  have A1 : Blk (w.alloc (.cells #[.int .u8 a0, .int .i64 a1] 23)) w.heap.size [.int .u8 a0, .int .i64 a1] 23 := Blk.new _ _ _
  have A2 := (A1.alloc (.cells #[.int .u8 b0, .int .i64 b1] 23)).keeps hk1 (fun x => x)
  have B2 : Blk w1 (w.heap.size + 1) [.int .u8 b0, .int .i64 b1] 23 := by
    have := (Blk.new (w.alloc (.cells #[.int .u8 a0, .int .i64 a1] 23)) [.int .u8 b0, .int .i64 b1] 23).keeps hk1 (fun x => x)
    simpa using this
  have K2 := (((Keeps.refl Non w).alloc (.cells #[.int .u8 a0, .int .i64 a1] 23)).alloc (.cells #[.int .u8 b0, .int .i64 b1] 23)).then hk1
  clear A1 hk1
  have la := A2.lt
  have lb := B2.lt
  have x0 : w1.cell? ⟨w.heap.size, 0, none⟩ = some (.int .u8 a0) := A2.cell 0
  have x1 : w1.cell? ⟨w.heap.size, 1, none⟩ = some (.int .i64 a1) := A2.cell 1
  have y0 : w1.cell? ⟨w.heap.size + 1, 0, none⟩ = some (.int .u8 b0) := B2.cell 0
  have y1 : w1.cell? ⟨w.heap.size + 1, 1, none⟩ = some (.int .i64 b1) := B2.cell 1
  go_wp2_with fail
  refine (C2 _).out.mono ?_
  rintro e w2 ⟨rfl, hk2⟩
  have R2 := (Blk.new w1 [.int .u8 r0, .int .i64 r1] 23).keeps hk2 (fun x => x)
  have K3 := (K2.alloc (.cells #[.int .u8 r0, .int .i64 r1] 23)).then hk2
  clear A2 B2 K2 hk2 C1 C2 x0 x1 y0 y1
  have lr := R2.lt
  have z0 : w2.cell? ⟨w1.heap.size, 0, none⟩ = some (.int .u8 r0) := R2.cell 0
  have z1 : w2.cell? ⟨w1.heap.size, 1, none⟩ = some (.int .i64 r1) := R2.cell 1
  by_cases h1 : k = 1
  · subst h1
    have hn : nameOf 1 = ⟨#[102, 117, 101, 108]⟩ := by decide
    go_wp2_with (first | (go_at_call 34; refine (name_any _ _).mono ?_; rintro e w' ⟨rfl, rfl⟩) | (go_at_call 18; refine (awake_any _).mono ?_; rintro e w' ⟨rfl, hk⟩))
    go_ret
    exact ⟨rfl, (K3.alloc _).then (by assumption)⟩
  · by_cases h2 : k = 2
    · subst h2
      have hn : nameOf 2 = ⟨#[115, 105, 122, 101]⟩ := by decide
      go_wp2_with (first | (go_at_call 34; refine (name_any _ _).mono ?_; rintro e w' ⟨rfl, rfl⟩) | (go_at_call 18; refine (awake_any _).mono ?_; rintro e w' ⟨rfl, hk⟩))
      go_ret
      exact ⟨rfl, (K3.alloc _).then (by assumption)⟩
    · have hn : nameOf k = ⟨#[]⟩ := by simp [nameOf, h1, h2]
      have q1 : (k == 1) = false := by simp [h1]
      have q2 : (k == 2) = false := by simp [h2]
      clear h1 h2
      go_wp2_with (first | (go_at_call 34; refine (name_any _ _).mono ?_; rintro e w' ⟨rfl, rfl⟩) | (go_at_call 18; refine (awake_any _).mono ?_; rintro e w' ⟨rfl, hk⟩))
      go_ret
      exact ⟨rfl, (K3.alloc _).then (by assumption)⟩
theorem u8b {a : Int} (h : (Lit.int .u8 a).wf = true) : 0 ≤ a ∧ a ≤ 255 := by
  simp only [Lit.wf, Bool.and_eq_true, decide_eq_true_eq] at h
  exact h
end Go.Proofs.Ytfjofiofgjlgiaa
