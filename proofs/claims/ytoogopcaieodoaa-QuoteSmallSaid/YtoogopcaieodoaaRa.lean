/-
  The reference's sets, 256 numbers by value; isMark of the reference. No condition.
-/
import Derived.Test.YtoogopcaieodoaaY
import Derived.Deep.WholeRow
namespace Go.Proofs.Ytoogopcaieodoaa
open Go.RowKit Go.Shelf
attribute [local go_sem] onto_cell onto_frozen
/-- A set as 256 numbers. -/
def mkN (m : Mk) (c : Nat) : Int := if has m (c : Int) then 1 else 0
def mkL (m : Mk) : List Value := (List.range 256).map fun c => .int .i64 (mkN m c)
theorem mkL_length (m : Mk) : (mkL m).length = 256 := by simp [mkL]
theorem mkL_at (m : Mk) (c : Nat) (h : c < 256) : (mkL m)[c]? = some (.int .i64 (mkN m c)) := by
  simp [mkL, h]
/-- The array's value, whatever the walk may know of it. -/
def mkA (m : Mk) : Array Value := (mkL m).toArray
theorem info60 : (Try.prog.info? 60).map (·.size) = some 256 := by kernel_rfl
theorem zero60 (w : World) : (zeroValue 60).run Try.prog w = .ok (.agg (Array.replicate 256 (.int .i64 0))) w :=
  (zero_of_info (P := Try.prog) (t := 60) (v := .agg (Array.replicate 256 (.int .i64 0))) (n := 256) (by kernel_rfl)).1 w
theorem blkA_new (w : World) (m : Mk) {n : Nat} (hn : n = w.heap.size) : Blk (w.alloc (.cells (mkA m) 60)) n (mkL m) 60 := Blk.newAt w (mkL m) 60 hn
theorem ld60 {w : World} {b : Nat} {m : Mk} (h : Blk w b (mkL m) 60) : (Instr.loadAt 60 (.pointer (some ⟨b, 0, none⟩))).run Try.prog w = .ok (.agg (mkA m)) w := by
  simp only [Instr.loadAt, Instr.sureAddr, Sem.run_bind, Sem.run_pure, Result.andThen]
  exact run_loadVar_row w b 60 60 (mkA m) (0, 0) _ h Try.underlying60 rfl (by rw [info60]; simp [mkA, mkL_length])
theorem oper_load {P : Program} {o : Oper} {a : Act} {w w' : World} {next : Act → World → Prop} {Q : Exit → Act → World → Prop} {t : TypeId} {src : Operand} {v : Value} (ho : o.op = .load t src) (h : (Instr.loadAt t (a.eval src)).run P w = .ok v w') (hk : next (a.put o.dst v) w') : o.wp P a w next Q := by
  unfold Oper.wp execOp
  simp only [ho, Sem.run_bind, h, Result.andThen_ok, Sem.run_pure]
  exact hk
theorem oper_store {P : Program} {o : Oper} {a : Act} {w w' : World} {next : Act → World → Prop} {Q : Exit → Act → World → Prop} {t : TypeId} {p x : Operand} (ho : o.op = .store t p x) (h : (Instr.storeAt t (a.eval p) (a.eval x)).run P w = .ok () w') (hk : next (a.put o.dst undef) w') : o.wp P a w next Q := by
  unfold Oper.wp execOp
  simp only [ho, Sem.run_bind, h, Result.andThen_ok, Sem.run_pure]
  exact hk
set_option maxRecDepth 100000 in
theorem markR_any (m : Mk) (c : Int) (w : World) (h0 : 0 ≤ c) (h1 : c ≤ 255) :
    Calls Try.prog 47 #[.agg (mkA m), .int .u8 c] w fun e w' => e = .returned (.bool (isMk m c)) ∧ Keeps Non w w' := by
  obtain ⟨b, hb⟩ : ∃ b, has m c = b := ⟨_, rfl⟩
  have hM : Hid (isMk m c = (b && decide (32 ≤ c) && decide (c ≤ 126) && !(decide (65 ≤ c) && decide (c ≤ 90) || decide (97 ≤ c) && decide (c ≤ 122)) && !(decide (48 ≤ c) && decide (c ≤ 57)))) := by
    by_cases hc : c ≤ 126
    · simp only [Hid, isMk, digitB, hb, low_letter c h0 hc]
    · simp [Hid, isMk, hc]
  have hget : (mkA m)[c.toNat]? = some (.int .i64 (if b then 1 else 0)) := by
    have := mkL_at m c.toNat (by omega)
    unfold mkN at this
    rw [Int.toNat_of_nonneg h0, hb] at this
    simpa [mkA] using this
  clear hb
  have g1 : c < 256 := by omega
  cases b with
  | false =>
    simp only [Bool.false_eq_true, ↓reduceIte] at hget
    go_enter Try.func47, Try.ntmps47
    go_wp2_with fail
    all_goals
      go_ret
      refine ⟨ret_bool ?_, (Keeps.refl _ _).alloc _⟩
      rw [hM.out]
      first | (simp [*]; done) | (simp [*]; omega) | (rw [Bool.eq_iff_iff]; simp; omega)
  | true =>
    simp only [↓reduceIte] at hget
    go_enter Try.func47, Try.ntmps47
    go_wp2_with fail
    all_goals
      go_ret
      refine ⟨ret_bool ?_, (Keeps.refl _ _).alloc _⟩
      rw [hM.out]
      first | (simp [*]; done) | (simp [*]; omega) | (rw [Bool.eq_iff_iff]; simp; omega)
theorem markR_at (m : Mk) (c : Int) (v : Bool) (w : World) (h0 : 0 ≤ c) (h1 : c ≤ 255) (hv : isMk m c = v) :
    Calls Try.prog 47 #[.agg (mkA m), .int .u8 c] w fun e w' => e = .returned (.bool v) ∧ Keeps Non w w' := by
  subst hv
  exact markR_any m c w h0 h1
theorem hexR_at (n : Int) (up : Bool) (v : Int) (w : World) (h0 : 0 ≤ n) (h1 : n < 16) (hv : ((if up then hX n.toNat else hx n.toNat).toNat : Int) = v) :
    Calls Try.prog 46 #[.int .i64 n, .bool up] w fun e w' => e = .returned (.int .u8 v) ∧ w = w' := by
  subst hv
  obtain h | h | h | h | h | h | h | h | h | h | h | h | h | h | h | h : n = 0 ∨ n = 1 ∨ n = 2 ∨ n = 3 ∨ n = 4 ∨ n = 5 ∨ n = 6 ∨ n = 7 ∨ n = 8 ∨ n = 9 ∨ n = 10 ∨ n = 11 ∨ n = 12 ∨ n = 13 ∨ n = 14 ∨ n = 15 := by omega
  all_goals
    subst h
    cases up
    all_goals
      go_enter Try.func46, Try.ntmps46
      go_wp2_with fail
      go_ret
      exact ⟨by rfl, rfl⟩
end Go.Proofs.Ytoogopcaieodoaa
