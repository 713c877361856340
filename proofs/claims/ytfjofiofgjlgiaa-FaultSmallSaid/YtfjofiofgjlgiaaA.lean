/-
  Walks over layer 35: there, Throw, boom, and the deferred closures of caught and outside. No condition.
-/
import Derived.Test.YtfjofiofgjlgiaaRows
import Derived.Test.YtfjofiofgjlgiaaKeep
import Derived.Laws.Pointers
import Derived.Laws.Panics
import Derived.Recover
namespace Go.Proofs.Ytfjofiofgjlgiaa
open Go.RowKit

/-- 'there' as a Bool function that the walk does not open. -/
def thereB (k : Int) : Bool := decide (1 ≤ k ∧ k ≤ 2)

theorem ret_bool {a b : Bool} (h : a = b) : Ending.returned (.bool a) = .returned (.bool b) := by rw [h]
theorem ret_int {k : IntKind} {a b : Int} (h : a = b) : Ending.returned (.int k a) = .returned (.int k b) := by rw [h]

theorem there_any (k : Int) (w : World) :
    Calls Try.prog 43 #[.int .u8 k] w fun e w' => e = .returned (.bool (thereB k)) ∧ w = w' := by
  go_enter Try.func43, Try.ntmps43
  go_wp2
  all_goals
    go_ret
    exact ⟨ret_bool (by unfold thereB; rw [Bool.eq_iff_iff]; simp; omega), rfl⟩

theorem throw_bad (k m : Int) (h : thereB k = false) (w : World) :
    Calls Try.prog 17 #[.int .u8 k, .int .i64 m] w fun e w' => e = .panicked [{ v := .iface 25 (.int .i64 350), recovered := false }] ∧ w = w' := by
  go_enter Try.func17, Try.ntmps17
  go_wp2_with (go_at_call 43; refine (there_any _ _).mono ?_; rintro e w' ⟨rfl, rfl⟩)
  exact ⟨rfl, rfl, rfl⟩

theorem throw_good (k m : Int) (h : thereB k = true) (w : World) :
    Calls Try.prog 17 #[.int .u8 k, .int .i64 m] w fun e w' => e = .panicked [{ v := .iface 23 (.agg #[.int .u8 k, .int .i64 m]), recovered := false }] ∧ w = w' := by
  go_enter Try.func17, Try.ntmps17
  go_wp2_with (go_at_call 43; refine (there_any _ _).mono ?_; rintro e w' ⟨rfl, rfl⟩)
  exact ⟨rfl, rfl, rfl⟩

theorem run_boundsPanic_below {α : Type} {P : Program} {w : World} (k : IntKind) (x y : Int) (code : BoundsCode) :
    ∃ s w', (boundsPanic k x y code : Sem α).run P w = .halt (.panic (boundsValue P (IntKind.i64.wrap x) y s code.toNat)) w' ∧ Keeps Non w w' := by
  unfold boundsPanic boundsValue
  split
  · exact ⟨_, _, rfl, (Keeps.refl _ _).drew⟩
  · exact ⟨_, _, rfl, Keeps.refl _ _⟩
theorem bounds_at (x y s c) : boundsValue Try.prog x y s c = .iface 8 (.agg #[.int .i64 x, .int .i64 y, .bool s, .int .u8 c]) := rfl
theorem run_out (i : Int) (w : World) : ∃ v w', (Instr.indexAt 63 (.slice none 0 0) (.int .i64 i)).run Try.prog w = .halt (.panic (.iface 8 v)) w' ∧ Keeps Non w w' := by
  have e : (Instr.indexAt 63 (.slice none 0 0) (.int .i64 i)).run Try.prog w = (boundsPanic .i64 i 0 .index).run Try.prog w := by
    simp [Instr.indexAt, run_underlying Try.underlying63, asIntOf]
  obtain ⟨s, w', h, hb⟩ := run_boundsPanic_below (α := Value) (P := Try.prog) (w := w) .i64 i 0 .index
  exact ⟨_, w', by rw [e, h, bounds_at], hb⟩
theorem boom_any (n : Int) (w : World) :
    Calls Try.prog 16 #[.int .i64 n] w fun e w' => (∃ v, e = .panicked [{ v := .iface 8 v, recovered := false }]) ∧ Keeps Non w w' := by
  by_cases hn : 0 ≤ n
  · obtain ⟨v, w', h, hb⟩ := run_out n w
    go_enter Try.func16, Try.ntmps16
    go_wp2
    exact ⟨rfl, ⟨_, rfl⟩, hb⟩
  · obtain ⟨v, w', h, hb⟩ := run_out 0 w
    go_enter Try.func16, Try.ntmps16
    go_wp2
    exact ⟨rfl, ⟨_, rfl⟩, hb⟩

/-! ### outside$1: 'x = recover()' -/
theorem outside1_idle (b : Nat) (x0 : Value) (w : World) (hb : Blk w b [x0] 20) :
    CallsD Try.prog 41 #[.pointer (some ⟨b, 0, none⟩)] .returning w fun e u' w' => e = .returned (.tuple #[]) ∧ u' = .returning ∧ w' = w.setCell ⟨b, 0, none⟩ .nilIface := by
  have hc := hb.cell 0
  have hf := hb.free 0 none
  simp only [List.getElem?_cons_zero] at hc
  refine callsD_of_wpS Try.func41 rfl fun c₀ cs hu => ?_
  apply wpS_region
  simp [wpOpsS, go_sem, recoverD, hu, Try.ntmps41, hc, hf, bodyPostS, results, Try.results41]
  cases c₀
  simp_all
theorem outside1_panic (b : Nat) (x0 : Value) (t : TypeId) (pv : Value) (older : List PanicEntry) (w : World) (hb : Blk w b [x0] 20) :
    CallsD Try.prog 41 #[.pointer (some ⟨b, 0, none⟩)] (.panicking ({ v := .iface t pv, recovered := false } :: older)) w fun e u' w' =>
      e = .returned (.tuple #[]) ∧ u' = .panicking ({ v := .iface t pv, recovered := true } :: older) ∧ w' = w.setCell ⟨b, 0, none⟩ (.iface t pv) := by
  have hc := hb.cell 0
  have hf := hb.free 0 none
  simp only [List.getElem?_cons_zero] at hc
  refine callsD_of_wpS Try.func41 rfl fun c₀ cs hu => ?_
  apply wpS_region
  simp [wpOpsS, go_sem, recoverD, hu, Try.ntmps41, hc, hf, bodyPostS, results, Try.results41]
end Go.Proofs.Ytfjofiofgjlgiaa
