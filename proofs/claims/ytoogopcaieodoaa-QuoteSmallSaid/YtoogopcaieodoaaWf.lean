/-
  Arguments opened: integers' bounds; an array of four integers. No condition.
-/
import Derived.Test.YtoogopcaieodoaaB
import Derived.OpenShut
import Derived.ChangeSame
import Derived.Lib.SmallJoins
namespace Go.Proofs.Ytoogopcaieodoaa
open Go.ChangeShapes Go.WideShapes
theorem u8b {a : Int} (h : (Lit.int .u8 a).wf = true) : 0 ≤ a ∧ a ≤ 255 := by
  simp only [Lit.wf, Bool.and_eq_true, decide_eq_true_eq] at h
  exact h
theorem u16b {a : Int} (h : (Lit.int .u16 a).wf = true) : 0 ≤ a ∧ a ≤ 65535 := by
  simp only [Lit.wf, Bool.and_eq_true, decide_eq_true_eq] at h
  exact h
theorem u64b {a : Int} (h : (Lit.int .u64 a).wf = true) : 0 ≤ a ∧ a ≤ 18446744073709551615 := by
  simp only [Lit.wf, Bool.and_eq_true, decide_eq_true_eq] at h
  exact h
variable {H : Type} {enc : TypeId × Value → H} {P : Program} {W : World} {base : Nat} {sp : Nat → Bool} {held : Bool}
theorem open_arr4 {r : Reach} {b0 : Nat} {t e : TypeId} {q : IntKind} {v : Value} {d : DataW H} {ps : List MemPlace} (hu : P.underlying t = some (.array 4 e)) (he : P.underlying e = some (.int q)) (hone : P.cellsOf e = 1) (hsz : P.cellsOf t = 4)
    (hval : Value.okWide P W r b0 t v) (hd : DataW.Trod enc P W base sp held t v d ps) :
    ∃ n0 n1 n2 n3, v = .agg #[.int q n0, .int q n1, .int q n2, .int q n3] ∧ d = .agg [.lit (.int q n0), .lit (.int q n1), .lit (.int q n2), .lit (.int q n3)] ∧ ps = [] ∧
      (Lit.int q n0).wf = true ∧ (Lit.int q n1).wf = true ∧ (Lit.int q n2).wf = true ∧ (Lit.int q n3).wf = true := by
  simp only [Value.okWide, hu] at hval
  obtain ⟨cs, rfl, h2, _⟩ := hval
  obtain ⟨c0, c1, c2, c3, rfl⟩ := Go.Joins.array4 (h2.trans hsz)
  obtain ⟨fuel, hf⟩ := hd
  cases fuel with
  | zero => simp [DataW.trod] at hf
  | succ m =>
    rw [DataW.trod_step] at hf
    unfold DataW.trodStep at hf
    simp only [hu, Value.cells] at hf
    rw [if_pos (by rw [hsz]; rfl)] at hf
    simp only [Option.map_eq_some_iff] at hf
    obtain ⟨ys, hy, e1⟩ := hf
    simp only [hone, show List.range 4 = [0, 1, 2, 3] from rfl, List.mapM_cons, List.mapM_nil, bind, Option.bind_eq_some_iff, pure, Option.some.injEq, Nat.mul_one, List.drop_succ_cons, List.drop_zero, List.take_succ_cons, List.take_zero] at hy
    obtain ⟨y0, hy0, ys0, ⟨y1, hy1, ys1, ⟨y2, hy2, ys2, ⟨y3, hy3, ys3, rfl, rfl⟩, rfl⟩, rfl⟩, rfl⟩ := hy
    obtain ⟨n0, e0, rfl, w0⟩ := DataW.trod_int he hy0
    obtain ⟨n1, e1', rfl, w1⟩ := DataW.trod_int he hy1
    obtain ⟨n2, e2, rfl, w2⟩ := DataW.trod_int he hy2
    obtain ⟨n3, e3, rfl, w3⟩ := DataW.trod_int he hy3
    simp only [List.cons.injEq, and_true] at e0 e1' e2 e3
    subst e0 e1' e2 e3
    simp only [Prod.mk.injEq] at e1
    exact ⟨n0, n1, n2, n3, rfl, by rw [← e1.1]; rfl, by rw [← e1.2]; rfl, w0, w1, w2, w3⟩
end Go.Proofs.Ytoogopcaieodoaa
