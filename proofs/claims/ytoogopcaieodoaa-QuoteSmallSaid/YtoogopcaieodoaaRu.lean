/-
  Not of the empty set, All. No condition.
-/
import Derived.Test.YtoogopcaieodoaaRt
namespace Go.Proofs.Ytoogopcaieodoaa
open Go.RowKit Go.Shelf
attribute [local go_sem] onto_cell onto_frozen
set_option maxRecDepth 100000 in
theorem not_zero (w : World) :
    Calls Try.prog 42 #[.agg #[.int .u64 0, .int .u64 0, .int .u64 0, .int .u64 0]] w fun e w' => e = .returned (.agg #[.int .u64 18446744073709551615, .int .u64 18446744073709551615, .int .u64 18446744073709551615, .int .u64 18446744073709551615]) ∧ Keeps Non w w' := by
  go_enter Try.func42, Try.ntmps42
  go_wp2_with fail
  refine (eachNot_zero _).mono ?_
  rintro e w2 ⟨rfl, hk⟩
  have HK := hide ((((Keeps.refl Non w).alloc (.cells #[.int .u64 0, .int .u64 0, .int .u64 0, .int .u64 0] 24)).alloc (.cells #[.int .u64 0, .int .u64 0, .int .u64 0, .int .u64 0] 24)).then hk)
  have hR := (Blk.newAt (w.alloc (.cells #[.int .u64 0, .int .u64 0, .int .u64 0, .int .u64 0] 24)) (wl ⟨0, 0, 0, 0⟩) 24 (n := w.heap.size + 1) (by simp)).keeps hk (fun x => x)
  have HR := hide hR
  clear hk hR
  have lr := HR.out.lt
  have r0 : w2.cell? ⟨w.heap.size + 1, 0, none⟩ = some (.int .u64 0) := HR.out.cell 0
  have r1 : w2.cell? ⟨w.heap.size + 1, 1, none⟩ = some (.int .u64 0) := HR.out.cell 1
  have r2 : w2.cell? ⟨w.heap.size + 1, 2, none⟩ = some (.int .u64 0) := HR.out.cell 2
  have r3 : w2.cell? ⟨w.heap.size + 1, 3, none⟩ = some (.int .u64 0) := HR.out.cell 3
  have g0 := HR.out.free 0 none
  have g1 := HR.out.free 1 none
  have g2 := HR.out.free 2 none
  have g3 := HR.out.free 3 none
  go_wp2_with fail
  refine bodyPost_ret (v := .agg #[.int .u64 18446744073709551615, .int .u64 18446744073709551615, .int .u64 18446744073709551615, .int .u64 18446744073709551615]) (by simp [results, Try.results42, go_sem, r0, r1, r2, r3]) rfl ⟨rfl, ?_⟩
  have hle : w.heap.size ≤ w.heap.size + 1 := by omega
  exact (((HK.out.set (.inr hle) _).set (.inr hle) _).set (.inr hle) _).set (.inr hle) _
set_option maxRecDepth 100000 in
theorem all_any (w : World) :
    Calls Try.prog 25 #[] w fun e w' => e = .returned (.agg #[.int .u64 18446744073709551615, .int .u64 18446744073709551615, .int .u64 18446744073709551615, .int .u64 18446744073709551615]) ∧ Keeps Non w w' := by
  go_enter Try.func25, Try.ntmps25
  go_wp2_with fail
  refine (not_zero _).mono ?_
  rintro e w2 ⟨rfl, hk⟩
  have HK := hide (((Keeps.refl Non w).alloc (.cells #[.int .u64 0, .int .u64 0, .int .u64 0, .int .u64 0] 24)).then hk)
  have hR := (Blk.new w (wl ⟨0, 0, 0, 0⟩) 24).keeps hk (fun x => x)
  have HR := hide hR
  clear hk hR
  have lr := HR.out.lt
  have r0 : w2.cell? ⟨w.heap.size, 0, none⟩ = some (.int .u64 0) := HR.out.cell 0
  have r1 : w2.cell? ⟨w.heap.size, 1, none⟩ = some (.int .u64 0) := HR.out.cell 1
  have r2 : w2.cell? ⟨w.heap.size, 2, none⟩ = some (.int .u64 0) := HR.out.cell 2
  have r3 : w2.cell? ⟨w.heap.size, 3, none⟩ = some (.int .u64 0) := HR.out.cell 3
  have g0 := HR.out.free 0 none
  have g1 := HR.out.free 1 none
  have g2 := HR.out.free 2 none
  have g3 := HR.out.free 3 none
  go_wp2_with fail
  refine bodyPost_ret (v := .agg #[.int .u64 18446744073709551615, .int .u64 18446744073709551615, .int .u64 18446744073709551615, .int .u64 18446744073709551615]) (by simp [results, Try.results25, go_sem, r0, r1, r2, r3]) rfl ⟨rfl, ?_⟩
  have hle : w.heap.size ≤ w.heap.size := Nat.le_refl _
  exact (((HK.out.set (.inr hle) _).set (.inr hle) _).set (.inr hle) _).set (.inr hle) _
/-- The sets of the closed statement. -/
def k1 : Mk := setOf [47, 42, 34]
def k3 : Mk := setOf [110, 120, 48, 10, 200]
theorem k1_eq : (k1.w0, k1.w1, k1.w2, k1.w3) = (145152714735616, 0, 0, 0) := by kernel_rfl
end Go.Proofs.Ytoogopcaieodoaa
