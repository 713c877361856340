/-
  Keys that are not equal to themselves: Of over 1, NaN, 1, NaN. No condition. Of over 1, NaN, 1, NaN: the walk. No condition. A REGION THAT DRAWS ITS ORDER AND MAKES BLOCKS: what each operation yields is told by a property that later worlds keep; each operation is shown once, out of what it waits for alone. No condition. Lists of lists, as they are laid. No condition. Keys from 0 on: what BlocksSmall asks of 1024 and of 1025 of them. No condition.
-/
import Derived.Test.YtkcbahfmdokalaaH
import Derived.MapKept
import Derived.Laws.NewFold
import Derived.Laws.FloatArith
import Derived.Test.YtkcbahfmdokalaaKeep
import Derived.Still
import Derived.Test.YtkcbahfmdokalaaLv
import Derived.Test.YtkcbahfmdokalaaLs
import Derived.Test.YtkcbahfmdokalaaO
import Derived.Test.YtkcbahfmdokalaaMk
import Derived.Test.YtkcbahfmdokalaaLk
namespace Go.Proofs.Ytkcbahfmdokalaa
section
open Go.RowKit
attribute [local go_sem] onto_cell onto_frozen
set_option linter.unusedVariables false
/-- The bits of a NaN. -/
def IsNan (c : Nat) : Prop := ∃ s f, Ieee.double.read c = .nan s f
theorem nan_cut (x y t : Nat) : IsNan ((Question.nanBits .f64 x y).cut t) := by
  have e : (Question.nanBits .f64 x y).cut t = (t % 2) * 9223372036854775808 + 9218868437227405312 + 1 + (t / 2) % 4503599627370495 := rfl
  obtain ⟨c, hc⟩ : ∃ c, (Question.nanBits .f64 x y).cut t = c := ⟨_, rfl⟩
  rw [hc] at e ⊢
  have h1 : Ieee.double.signWeight = 9223372036854775808 := rfl
  have h2 : Ieee.double.binade = 4503599627370496 := rfl
  have h3 : Ieee.double.infRung = 9218868437227405312 := rfl
  obtain ⟨z, hz⟩ : ∃ z, (t / 2) % 4503599627370495 = z := ⟨_, rfl⟩
  have h4 : z < 4503599627370495 := hz ▸ Nat.mod_lt (t / 2) (show 4503599627370495 > 0 by omega)
  have h5 : c % 9223372036854775808 = 9218868437227405312 + 1 + z := by
    rw [hz] at e
    rcases Nat.mod_two_eq_zero_or_one t with h | h <;> rw [h] at e <;> omega
  unfold IsNan Ieee.Format.read
  rw [h1, h2, h3]
  simp only
  rw [h5, if_neg (by omega), if_neg (by omega), if_neg (by omega)]
  exact ⟨_, _, rfl⟩
/-- 0 / 0. -/
theorem run_nan (w : World) : ∃ c, IsNan c ∧ (binOp .quo 61 (.float .f64 0) (.float .f64 0)).run Try.prog w = .ok (.float .f64 c) w.drew := by
  have hd : FloatKind.f64.format.div 0 0 = none := by decide +kernel
  refine ⟨(Question.nanBits .f64 0 0).cut (w.tape w.drawn (Question.nanBits .f64 0 0)), nan_cut _ _ _, ?_⟩
  simp [binOp, Op.floatArith, hd, Question.forced, Result.andThen]
theorem order_nan1 {c : Nat} (h : IsNan c) (d : Nat) : Op.floatEq .f64 c d = false := by
  obtain ⟨s, f, h⟩ := h
  unfold Op.floatEq
  show (Ieee.Datum.order (Ieee.double.read c) (Ieee.double.read d) == some .eq) = false
  rw [h]
  cases Ieee.double.read d <;> rfl
theorem order_nan2 {c : Nat} (h : IsNan c) (d : Nat) : Op.floatEq .f64 d c = false := by
  obtain ⟨s, f, h⟩ := h
  unfold Op.floatEq
  show (Ieee.Datum.order (Ieee.double.read d) (Ieee.double.read c) == some .eq) = false
  rw [h]
  cases Ieee.double.read d <;> rfl
def oneF : Nat := 4607182418800017408
theorem order_one : Op.floatEq .f64 oneF oneF = true := by decide +kernel
theorem run_equal_float (a b : Nat) (w : World) : (Op.equal 61 (.float .f64 a) (.float .f64 b)).run Try.prog w = .ok (Op.floatEq .f64 a b) w := by
  have : ∀ d, (Op.equalIn (d + 1) 61 (.float .f64 a) (.float .f64 b)).run Try.prog w = .ok (Op.floatEq .f64 a b) w := fun d => by
    unfold Op.equalIn
    simp [run_underlying Try.underlying61, Result.andThen]
  exact this 9999
/-- An entry. -/
def entF (x : Nat × Int × Nat) : MapEntry := ⟨.float .f64 x.1, .int .i64 x.2.1, x.2.2⟩
def askF (x : Nat) : List (Nat × Int × Nat) → Nat → Option (Nat × Value)
  | [], _ => none
  | e :: es, i => if Op.floatEq .f64 x e.1 then some (i, .int .i64 e.2.1) else askF x es (i + 1)
theorem run_ask (x : Nat) (w : World) : ∀ (L : List (Nat × Int × Nat)) (i : Nat), (Instr.findAsking 61 (.float .f64 x) (L.map entF) i).run Try.prog w = .ok (askF x L i) w
  | [], i => by simp [Instr.findAsking, askF]
  | e :: es, i => by
    simp only [List.map_cons, Instr.findAsking, Sem.run_bind, entF, run_equal_float, Result.andThen, askF]
    cases h : Op.floatEq .f64 x e.1
    · simpa using run_ask x w es (i + 1)
    · simp
theorem run_find (x : Nat) (w : World) (L : List (Nat × Int × Nat)) : (Instr.findKey 61 (.float .f64 x) (L.map entF)).run Try.prog w = .ok (askF x L 0) w := by
  simp only [Instr.findKey, Sem.run_bind, run_underlying Try.underlying61, Result.andThen]
  cases L with
  | nil => simp [Instr.findNow, askF]
  | cons e es =>
    simp only [List.map_cons, Instr.findNow, entF, Instr.sameNow]
    exact run_ask x w (e :: es) 0
theorem run_checkF (x : Nat) (w : World) (b : Bool) : (Instr.checkKey b 10000 61 (.float .f64 x)).run Try.prog w = .ok () w := by
  have : ∀ n, (Instr.checkKey b (n + 1) 61 (.float .f64 x)).run Try.prog w = .ok () w := fun n => by
    unfold Instr.checkKey
    simp [run_underlying Try.underlying61, Result.andThen]
  exact this 9999
theorem look_no {w : World} {B clock : Nat} {L : List (Nat × Int × Nat)} {x : Nat} (hb : w.heap[B]? = some (.map (L.map entF).toArray clock)) (h : askF x L 0 = none) :
    (Instr.lookup 96 (.map (some B)) (.float .f64 x) true).run Try.prog w = .ok (.tuple #[.int .i64 0, .bool false]) w := by
  have hf := run_find x w L
  rw [h] at hf
  simp [Instr.lookup, run_underlying Try.underlying96, MapKept.run_getObj_map hb, run_checkF, hf, Result.andThen]
theorem look_yes {w : World} {B clock : Nat} {L : List (Nat × Int × Nat)} {x i : Nat} {v : Int} (hb : w.heap[B]? = some (.map (L.map entF).toArray clock)) (h : askF x L 0 = some (i, .int .i64 v)) :
    (Instr.lookup 96 (.map (some B)) (.float .f64 x) true).run Try.prog w = .ok (.tuple #[.int .i64 v, .bool true]) w := by
  have hf := run_find x w L
  rw [h] at hf
  simp [Instr.lookup, run_underlying Try.underlying96, MapKept.run_getObj_map hb, run_checkF, hf, Result.andThen]
def setO (w : World) (B : Nat) (o : Obj) : World := { w with heap := w.heap.setIfInBounds B o }
theorem upd_no {w : World} {B clock : Nat} {L : List (Nat × Int × Nat)} {x : Nat} (v : Int) (hb : w.heap[B]? = some (.map (L.map entF).toArray clock)) (h : askF x L 0 = none) :
    (Instr.mapUpdate 96 (.map (some B)) (.float .f64 x) (.int .i64 v)).run Try.prog w = .ok () (setO w B (.map ((L ++ [(x, v, clock)]).map entF).toArray (clock + 1))) := by
  have hf := run_find x w L
  rw [h] at hf
  simp [Instr.mapUpdate, run_underlying Try.underlying96, MapKept.run_getObj_map hb, run_checkF, hf, MapKept.run_setObj_map _ hb, Result.andThen, setO, entF]
theorem setO_map {w : World} {B : Nat} {o o' : Obj} (h : w.heap[B]? = some o) : (setO w B o').heap[B]? = some o' := by
  have hlt : B < w.heap.size := (Array.getElem?_eq_some_iff.1 h).1
  simp [setO, hlt]
theorem setO_other {w : World} {B j : Nat} (o' : Obj) (h : j ≠ B) : (setO w B o').heap[j]? = w.heap[j]? := by
  simp [setO, Ne.symm h]
theorem setO_keeps {a w : World} {B : Nat} (o : Obj) (h : Keeps Non a w) (hB : a.heap.size ≤ B) : Keeps Non a (setO w B o) :=
  ⟨h.os, h.tape, h.output, by simpa [setO] using h.size, fun j hj _ => (setO_other o (by omega)).trans (h.block j hj (fun x => x))⟩
end
section
open Go.RowKit
attribute [local go_sem] onto_cell onto_frozen
set_option linter.unusedVariables false
def entsF (c : Nat) : Nat → List (Nat × Int × Nat)
  | 0 => []
  | 1 => [(oneF, 0, 0)]
  | 2 => [(oneF, 0, 0), (c, 1, 1)]
  | 3 => [(oneF, 0, 0), (c, 1, 1)]
  | _ => [(oneF, 0, 0), (c, 1, 1), (c, 2, 2)]
def cntF : Nat → Nat
  | 0 => 0
  | 1 => 1
  | 2 => 2
  | 3 => 2
  | _ => 3
def ansF : List Int := [0, 1, 0, 2]
structure StF (w wr : World) (B c k : Nat) : Prop where
  map : wr.heap[B]? = some (.map ((entsF c k).map entF).toArray (cntF k))
  row : Blk wr (B + 1) (rowL (ansF.take k) 4) 3
  keep : Keeps Non w wr
theorem StF.old {w wr : World} {B c k : Nat} (hB : w.heap.size ≤ B) (h : StF w wr B c k) {e : Int} (hk : entsF c (k + 1) = entsF c k) (hc : cntF (k + 1) = cntF k) (hr : (rowL (ansF.take k) 4).set k (.int .i64 e) = rowL (ansF.take (k + 1)) 4) : StF w (wr.setCell ⟨B + 1, k, none⟩ (.int .i64 e)) B c (k + 1) :=
  ⟨by rw [hk, hc]; exact (Below.heap_setCell wr ⟨B + 1, k, none⟩ _ B (by simp)).trans h.map, by rw [← hr]; exact h.row.store k _, h.keep.set (.inr (by omega)) _⟩
theorem StF.fresh {w wr : World} {B c k : Nat} (hB : w.heap.size ≤ B) (h : StF w wr B c k) {e : Int} {L : List (Nat × Int × Nat)} {n : Nat} (hk : entsF c (k + 1) = L) (hc : cntF (k + 1) = n) (hr : (rowL (ansF.take k) 4).set k (.int .i64 e) = rowL (ansF.take (k + 1)) 4) : StF w ((setO wr B (.map (L.map entF).toArray n)).setCell ⟨B + 1, k, none⟩ (.int .i64 e)) B c (k + 1) :=
  ⟨by rw [hk, hc]; exact (Below.heap_setCell _ ⟨B + 1, k, none⟩ _ B (by simp)).trans (setO_map h.map), by rw [← hr]; exact (h.row.of_eq (setO_other _ (by omega))).store k _, (setO_keeps _ h.keep hB).set (.inr (by omega)) _⟩
/-- One round: the key is there, or it is not. -/
theorem stepF {w wr : World} {g B c k : Nat} (hc : IsNan c) (hB : w.heap.size ≤ B) (hX : Blk wr g [.float .f64 oneF, .float .f64 c, .float .f64 oneF, .float .f64 c] 61) (h : StF w wr B c k) (hk : k < 4) :
    wr.cell? ⟨B + 1, k, none⟩ = some (.int .i64 0) ∧ ∃ x, wr.cell? ⟨g, k, none⟩ = some (.float .f64 x) ∧
      ((∃ v, (Instr.lookup 96 (.map (some B)) (.float .f64 x) true).run Try.prog wr = .ok (.tuple #[.int .i64 v, .bool true]) wr ∧ Hid (StF w (wr.setCell ⟨B + 1, k, none⟩ (.int .i64 v)) B c (k + 1)) ∧ Hid (cntF (k + 1) = cntF k)) ∨
       ((Instr.lookup 96 (.map (some B)) (.float .f64 x) true).run Try.prog wr = .ok (.tuple #[.int .i64 0, .bool false]) wr ∧ ∃ V, (Instr.mapUpdate 96 (.map (some B)) (.float .f64 x) (.int .i64 (cntF k))).run Try.prog wr = .ok () V ∧
          V.cell? ⟨B + 1, k, none⟩ = some (.int .i64 0) ∧ V.frozen? ⟨B + 1, k, none⟩ = false ∧ B + 1 < V.heap.size ∧ Hid (StF w (V.setCell ⟨B + 1, k, none⟩ (.int .i64 (cntF k))) B c (k + 1)) ∧ Hid (cntF (k + 1) = cntF k + 1))) := by
  have cq := hX.cell k
  have cr := h.row.cell k
  have mk : ∀ (x : Nat) (L : List (Nat × Int × Nat)), askF x (entsF c k) 0 = none → entsF c k ++ [(x, (cntF k : Int), cntF k)] = entsF c (k + 1) → cntF (k + 1) = cntF k + 1 → wr.cell? ⟨B + 1, k, none⟩ = some (.int .i64 0) → (rowL (ansF.take k) 4).set k (.int .i64 (cntF k)) = rowL (ansF.take (k + 1)) 4 →
      (Instr.lookup 96 (.map (some B)) (.float .f64 x) true).run Try.prog wr = .ok (.tuple #[.int .i64 0, .bool false]) wr ∧ ∃ V, (Instr.mapUpdate 96 (.map (some B)) (.float .f64 x) (.int .i64 (cntF k))).run Try.prog wr = .ok () V ∧
          V.cell? ⟨B + 1, k, none⟩ = some (.int .i64 0) ∧ V.frozen? ⟨B + 1, k, none⟩ = false ∧ B + 1 < V.heap.size ∧ Hid (StF w (V.setCell ⟨B + 1, k, none⟩ (.int .i64 (cntF k))) B c (k + 1)) ∧ Hid (cntF (k + 1) = cntF k + 1) := fun x L ha hL hn h0 hr => by
    have hb := h.row.of_eq (setO_other (.map ((entsF c (k + 1)).map entF).toArray (cntF k + 1)) (show B + 1 ≠ B by omega))
    refine ⟨look_no h.map ha, _, by rw [upd_no _ h.map ha, hL], ?_, hb.free _ _, hb.lt, h.fresh hB rfl hn hr, hn⟩
    rw [hb.cell, ← h.row.cell]
    exact h0
  have n1 := order_nan1 hc oneF
  have n2 := order_nan1 hc c
  have n3 := order_nan2 hc oneF
  match k, hk with
  | 0, _ => exact ⟨cr, oneF, cq, .inr (mk oneF [] rfl rfl rfl cr rfl)⟩
  | 1, _ => exact ⟨cr, c, cq, .inr (mk c [] (by simp [askF, entsF, n1]) rfl rfl cr rfl)⟩
  | 2, _ => exact ⟨cr, oneF, cq, .inl ⟨0, look_yes h.map (i := 0) (by simp [askF, entsF, order_one]), h.old hB rfl rfl rfl, rfl⟩⟩
  | 3, _ => exact ⟨cr, c, cq, .inr (mk c [] (by simp [askF, entsF, n1, n2]) rfl rfl cr rfl)⟩
set_option maxRecDepth 100000 in
set_option maxHeartbeats 8000000 in
theorem numbered_float (g c : Nat) (w : World) (hx : Blk w g [.float .f64 oneF, .float .f64 c, .float .f64 oneF, .float .f64 c] 61) (hc : IsNan c) :
    Calls Try.prog 64 #[.slice (some ⟨g, 0, none⟩) 4 4] w fun e w' => ∃ b, e = .returned (.slice (some ⟨b, 0, none⟩) 4 4) ∧ w.heap.size ≤ b ∧ Blk w' b (ansF.map (Value.int .i64)) 3 ∧ Keeps Non w w' := by
  have HX := hide hx
  have HC := hide hc
  clear hx hc
  have hmm := @run_makeMap Try.prog
  have hms : (Instr.makeSlice 22 (.int .i64 4) (.int .i64 4)).run Try.prog (w.alloc (.map #[] 0)) = _ := make22 (w.alloc (.map #[] 0)) 4 (by omega)
  obtain ⟨B, hB⟩ : ∃ B, w.heap.size = B := ⟨_, rfl⟩
  have HBs := hide hB
  have HS0 : Hid (StF w ((w.alloc (.map #[] 0)).alloc (.cells (Array.replicate 4 (.int .i64 0)) 3)) B c 0) := by
    refine ⟨?_, ?_, ((Keeps.refl Non w).alloc _).alloc _⟩
    · rw [← hB]
      exact (Below.heap_alloc _ _ _ (by simp)).trans (MapKept.heap_alloc w _).1
    · exact Blk.newAt (w.alloc (.map #[] 0)) (List.replicate 4 (.int .i64 0)) 3 (by simp [hB])
  clear hB
  go_enter Try.func64, Try.ntmps64
  go_wp2_with fail
  rw [HBs.out]
  obtain ⟨W, hW⟩ : ∃ W, (w.alloc (.map #[] 0)).alloc (.cells (Array.replicate 4 (.int .i64 0)) 3) = W := ⟨_, rfl⟩
  rw [hW] at HS0 ⊢
  clear hW hms hmm
  go_loopw [5, 16] (fun n i wr => ∃ k : Nat, k ≤ 4 ∧ i = .int .i64 k ∧ n = .int .i64 (cntF k) ∧ Hid (StF w wr B c k)) (fun _ i _ => 4 - (intOf i).toNat)
  case atStart => exact ⟨0, by omega, rfl, rfl, HS0.out⟩
  case round =>
    clear HS0
    obtain ⟨k, hk, rfl, rfl, HS⟩ := hrel
    by_cases hlt : k < 4
    · have hX := HX.out.keeps HS.out.keep (fun x => x)
      have lq := hX.lt
      have lr := HS.out.row.lt
      have fr := HS.out.row.free k none
      obtain ⟨cr, x, cq, hcase⟩ := stepF HC.out (by have := HBs.out; omega) hX HS.out hlt
      have k0 : (0 : Int) ≤ (k : Int) := by omega
      have k1 : (k : Int) < 4 := by omega
      obtain ⟨q, hq⟩ : ∃ q, cntF k = q := ⟨_, rfl⟩
      rw [hq] at hcase
      have hq4 : q ≤ 4 := by
        rw [← hq]
        match k, hlt with
        | 0, _ => decide
        | 1, _ => decide
        | 2, _ => decide
        | 3, _ => decide
      have HQ := hide hq
      clear hX hq
      rcases hcase with ⟨v, hl, HN, HE⟩ | ⟨hl, V, hu, cv, fv, lv, HN, HE⟩
      · try rw [HQ.out]
        go_wp2_with fail
        go_roundw
        case rel => exact ⟨k + 1, by omega, by go_num, by rw [HE.out], HN.out⟩
        case measure => simp [intOf]; omega
      · try rw [HQ.out]
        go_wp2_with fail
        go_roundw
        case rel => exact ⟨k + 1, by omega, by go_num, by rw [HE.out]; rfl, HN.out⟩
        case measure => simp [intOf]; omega
    · have hkn : k = 4 := by omega
      subst hkn
      go_wp2_with fail
      go_ret
      exact ⟨B + 1, rfl, by have := HBs.out; omega, HS.out.row, HS.out.keep⟩
theorem of_float (g c : Nat) (w : World) (hx : Blk w g [.float .f64 oneF, .float .f64 c, .float .f64 oneF, .float .f64 c] 61) (hc : IsNan c) :
    Calls Try.prog 39 #[.slice (some ⟨g, 0, none⟩) 4 4] w fun e w' => ∃ b, e = .returned (.tuple #[.slice (some ⟨b, 0, none⟩) 4 4, .int .i64 0]) ∧ Ints w' (some ⟨b, 0, none⟩) 4 ansF ∧ Keeps Non w w' := by
  have HC := hide (numbered_float g c w hx hc)
  clear hx hc
  go_enter Try.func39, Try.ntmps39
  go_wp2_with fail
  refine HC.out.mono ?_
  rintro e w2 ⟨b, rfl, hb, hB, hk⟩
  have HB := hide hB
  clear hB
  go_wp2_with fail
  go_ret2
  exact ⟨b, rfl, ints_of_blk HB.out (by decide), hk⟩
end
section
open Go.RowKit
set_option linter.unusedVariables false
section
variable {P : Program}
/-- What an operation has yielded, and in which world. -/
def mUpon (P : Program) (K : Value → World → Prop) : Result Next → Prop
  | .ok (.value v) w' => K v w'
  | .ok .skip w' => K undef w'
  | .ok (.enter f args) w' => Calls P f args w' fun e w'' => ∃ v, e = .returned v ∧ K v w''
  | _ => False
/-- One operation, from any world behind w0, given what it waits for. -/
def MStep (P : Program) (dsts : List Tmp) (base : List (Tmp × Value)) (G : Nat → Value → World → Prop) (w0 : World) (i : Nat) (o : Oper) : Prop :=
  ∀ (a : Act) (w : World), Keeps Non w0 w → (∀ p ∈ base, a.eval (.tmp p.1) = p.2) →
    (∀ (j : Nat) (d : Tmp), (o.after.any fun e => Region.binds .any e && e.on == j) = true → dsts[j]? = some d → G j (a.eval (.tmp d)) w) →
    (match o.guard with | none => True | some (g, want) => ∃ d, dsts[g]? = some d ∧ a.eval (.tmp d) = .bool want) ∧
    mUpon P (fun v w' => Keeps Non w w' ∧ G i v w') ((execOp a.eval o).run P w)
def mAll (P : Program) (dsts : List Tmp) (base : List (Tmp × Value)) (G : Nat → Value → World → Prop) (w0 : World) : Nat → List Oper → Prop
  | _, [] => True
  | i, o :: r => MStep P dsts base G w0 i o ∧ mAll P dsts base G w0 (i + 1) r
theorem mAll_at {dsts : List Tmp} {base : List (Tmp × Value)} {G : Nat → Value → World → Prop} {w0 : World} : ∀ (l : List Oper) (k : Nat), mAll P dsts base G w0 k l → ∀ (i : Nat) (o : Oper), l[i]? = some o → MStep P dsts base G w0 (k + i) o
  | [], _, _, i, o, h => by simp at h
  | x :: r, k, h, 0, o, ho => by
    cases ho
    exact h.1
  | x :: r, k, h, i + 1, o, ho => by
    have := mAll_at r (k + 1) h.2 i o (by simpa using ho)
    rw [show k + (i + 1) = k + 1 + i by omega]
    exact this
/-- The region's shape: each operation fills a slot of its own, and waits for earlier ones alone. -/
def mShape (dsts : List Tmp) (base : List (Tmp × Value)) (size : Nat) (l : List Oper) : Bool :=
  decide (l.map (·.dst) = dsts.map some) && decide dsts.Nodup && dsts.all (fun d => decide (d < size)) && base.all (fun p => decide (p.1 ∉ dsts)) &&
    l.zipIdx.all fun x => x.1.after.all fun e => !Region.binds .any e || decide (e.on < x.2)
/-- The slots filled. -/
def putAll (vs : Nat → Value) : List Tmp → Act → Act
  | [], a => a
  | d :: r, a => putAll vs r (a.put (some d) (vs d))
theorem putAll_defers (vs : Nat → Value) : ∀ (l : List Tmp) (a : Act), (putAll vs l a).defers = a.defers
  | [], a => rfl
  | d :: r, a => putAll_defers vs r _
theorem putAll_size (vs : Nat → Value) : ∀ (l : List Tmp) (a : Act), (putAll vs l a).tmps.size = a.tmps.size
  | [], a => rfl
  | d :: r, a => (putAll_size vs r _).trans (by simp [Act.put])
theorem putAll_at (vs : Nat → Value) : ∀ (l : List Tmp) (a : Act) (t : Nat), (∀ d ∈ l, d < a.tmps.size) → (putAll vs l a).tmps[t]? = if t ∈ l then some (vs t) else a.tmps[t]?
  | [], a, t, _ => by simp [putAll]
  | d :: r, a, t, h => by
    have h1 := putAll_at vs r (a.put (some d) (vs d)) t (fun x hx => by
      have := h x (List.mem_cons_of_mem _ hx)
      simpa [Act.put] using this)
    show (putAll vs r (a.put (some d) (vs d))).tmps[t]? = _
    rw [h1]
    have hd := h d List.mem_cons_self
    by_cases ht : t ∈ r
    · rw [if_pos ht, if_pos (List.mem_cons_of_mem _ ht)]
    · rw [if_neg ht]
      by_cases hdt : d = t
      · subst hdt
        rw [if_pos List.mem_cons_self]
        simp [Act.put, hd]
      · rw [if_neg (by
          intro hm
          rcases List.mem_cons.1 hm with e | e
          · exact hdt e.symm
          · exact ht e)]
        simp [Act.put, Array.getElem?_setIfInBounds_ne hdt]
structure MInv (dsts : List Tmp) (G : Nat → Value → World → Prop) (w0 : World) (a0 : Act) (listed : Array Bool) (a : Act) (w : World) : Prop where
  keep : Keeps Non w0 w
  defers : a.defers = a0.defers
  size : a.tmps.size = a0.tmps.size
  same : ∀ t : Nat, t ∉ dsts → a.tmps[t]? = a0.tmps[t]?
  done : ∀ (i : Nat) (d : Tmp), dsts[i]? = some d → listed.getD i false = true → G i (a.eval (.tmp d)) w
theorem eval_tmp (a : Act) (t : Nat) : a.eval (.tmp t) = (a.tmps[t]?).getD undef := by
  unfold Act.eval
  simp only [Array.getD_eq_getD_getElem?]
theorem eval_put_same {a : Act} {d : Nat} {v : Value} (h : d < a.tmps.size) : (a.put (some d) v).eval (.tmp d) = v := by
  rw [eval_tmp]
  simp [Act.put, h]
theorem eval_put_other {a : Act} {d t : Nat} {v : Value} (h : d ≠ t) : (a.put (some d) v).eval (.tmp t) = a.eval (.tmp t) := by
  rw [eval_tmp, eval_tmp]
  simp [Act.put, Array.getElem?_setIfInBounds_ne h]
theorem getD_false_of {listed : Array Bool} {i : Nat} : listed.getD i true = false → i < listed.size := by
  intro h
  rcases Nat.lt_or_ge i listed.size with h' | h'
  · exact h'
  · simp [Array.getElem?_eq_none h'] at h
theorem wpAny_mono {l : List Oper} {dsts : List Tmp} {base : List (Tmp × Value)} {G : Nat → Value → World → Prop} {w0 : World} {a0 : Act} {Q : Exit → Act → World → Prop}
    (hst : ∀ i v w w', G i v w → Keeps Non w w' → G i v w') (hshape : mShape dsts base a0.tmps.size l = true) (hbase : ∀ p ∈ base, a0.eval (.tmp p.1) = p.2) (hall : mAll P dsts base G w0 0 l)
    (hQ : ∀ a w, MInv dsts G w0 a0 (Array.replicate l.length true) a w → Q .normal a w) :
    ∀ (fuel : Nat) (listed : Array Bool) (a : Act) (w : World), listed.size = l.length → (listed.toList.filter (fun b => !b)).length ≤ fuel → MInv dsts G w0 a0 listed a w → wpAny P .any l.toArray Q fuel listed a w := by
  have hsh := hshape
  unfold mShape at hsh
  simp only [Bool.and_eq_true, decide_eq_true_eq, List.all_eq_true] at hsh
  obtain ⟨⟨⟨⟨s1, s2⟩, s3⟩, s4⟩, s5⟩ := hsh
  have hlen : l.length = dsts.length := by
    have := congrArg List.length s1
    simpa using this
  have hdst : ∀ (i : Nat) (o : Oper), l[i]? = some o → ∃ d, o.dst = some d ∧ dsts[i]? = some d := fun i o ho => by
    have h1 := congrArg (·[i]?) s1
    simp only [List.getElem?_map, ho, Option.map_some] at h1
    cases hd : dsts[i]? with
    | none => rw [hd] at h1; cases h1
    | some d => rw [hd] at h1; exact ⟨d, by simpa using h1, rfl⟩
  have hnil : ∀ listed : Array Bool, listed.size = l.length → Region.ready .any l.toArray listed = [] → ∀ i, i < l.length → listed.getD i true = true := fun listed hs hr i => by
    induction i using Nat.strongRecOn with
    | ind i ih =>
      intro hi
      cases hg : listed.getD i true with
      | true => rfl
      | false =>
        exfalso
        obtain ⟨o, ho⟩ : ∃ o, l[i]? = some o := ⟨l[i], List.getElem?_eq_getElem hi⟩
        have hm : i ∈ Region.ready .any l.toArray listed := mem_ready.2 ⟨hg, o, by simpa using ho, fun e he hb => by
          have h5 := s5 (o, i) (List.mem_zipIdx_iff_getElem?.2 (by simpa using ho))
          have h6 := (Array.all_eq_true_iff_forall_mem.1 h5) e he
          rw [hb] at h6
          have hlt : e.on < i := by simpa using h6
          have h7 := ih e.on hlt (by omega)
          have h8 : e.on < listed.size := by omega
          simp [h8] at h7 ⊢
          exact h7⟩
        rw [hr] at hm
        cases hm
  have hfull : ∀ listed : Array Bool, listed.size = l.length → (∀ i, i < l.length → listed.getD i true = true) → listed = Array.replicate l.length true := fun listed hs h => by
    refine Array.ext (by simp [hs]) fun i h1 h2 => ?_
    have := h i (by omega)
    simp [h1] at this
    simp [this]
  intro fuel
  induction fuel with
  | zero =>
    intro listed a w hs hf hI
    have hall : ∀ i, i < l.length → listed.getD i true = true := fun i hi => by
      have h0 : listed.toList.filter (fun b => !b) = [] := List.length_eq_zero_iff.1 (by omega)
      have h1 := List.filter_eq_nil_iff.1 h0
      have hi2 : i < listed.size := by omega
      have h2 := h1 listed[i] (by simp)
      simp [hi2]
      simpa using h2
    have e := hfull listed hs hall
    refine ⟨?_, hQ a w (e ▸ hI)⟩
    cases hr : Region.ready .any l.toArray listed with
    | nil => rfl
    | cons x r =>
      have hm : x ∈ Region.ready .any l.toArray listed := by rw [hr]; exact List.mem_cons_self
      have h1 := (mem_ready.1 hm).1
      have h2 := getD_false_of h1
      rw [hall x (by omega)] at h1
      cases h1
  | succ fuel ih =>
    intro listed a w hs hf hI
    refine ⟨fun hr => hQ a w (hfull listed hs (hnil listed hs hr) ▸ hI), fun i hi => ?_⟩
    obtain ⟨hun, o, ho, hdep⟩ := mem_ready.1 hi
    have hil := getD_false_of hun
    have ho' : l[i]? = some o := by simpa using ho
    obtain ⟨d, hod, hdd⟩ := hdst i o ho'
    have hdm : d ∈ dsts := List.mem_of_getElem? hdd
    have hdl : d < a.tmps.size := by
      have := s3 d hdm
      rw [hI.size]
      simpa using this
    have hstep := mAll_at l 0 hall i o ho' a w hI.keep (fun p hp => by
      have h1 := s4 p hp
      rw [eval_tmp, hI.same p.1 (by simpa using h1), ← eval_tmp]
      exact hbase p hp) (fun j dj hj hdj => hI.done j dj hdj (by
        rw [← Array.any_toList] at hj
        obtain ⟨e, he, hb⟩ := List.any_eq_true.1 hj
        replace he := Array.mem_toList_iff.1 he
        simp only [Bool.and_eq_true, beq_iff_eq] at hb
        have := hdep e he hb.1
        rw [hb.2] at this
        exact this))
    rw [Nat.zero_add] at hstep
    have hnext : ∀ v w', Keeps Non w w' → G i v w' → MInv dsts G w0 a0 (listed.setIfInBounds i true) (a.put (some d) v) w' := fun v w' hk hg => by
      refine ⟨hI.keep.then hk, hI.defers, by simp [Act.put, hI.size], fun t ht => ?_, fun j dj hj hl => ?_⟩
      · have hne : d ≠ t := fun e => ht (e ▸ hdm)
        simp only [Act.put]
        rw [Array.getElem?_setIfInBounds_ne hne]
        exact hI.same t ht
      · by_cases hij : i = j
        · subst hij
          rw [hdd] at hj
          cases hj
          rw [eval_put_same hdl]
          exact hg
        · have hne : d ≠ dj := fun e => by
            subst e
            have h1 := (List.getElem?_eq_some_iff.1 hdd)
            have h2 := (List.getElem?_eq_some_iff.1 hj)
            obtain ⟨p1, q1⟩ := h1
            obtain ⟨p2, q2⟩ := h2
            exact hij ((List.getElem_inj s2).1 (q1.trans q2.symm))
          rw [eval_put_other hne]
          rw [getD_set_ne false hij] at hl
          exact hst _ _ _ _ (hI.done j dj hj hl) hk
    have hcount : ((listed.setIfInBounds i true).toList.filter (fun b => !b)).length ≤ fuel := by
      have e1 : listed[i] = false := by simpa [hil] using hun
      have h1 : (listed.setIfInBounds i true).toList = listed.toList.set i true := by simp
      rw [h1, ← List.countP_eq_length_filter, List.countP_set (by simpa using hil)]
      rw [← List.countP_eq_length_filter] at hf
      have e2 : listed.toList[i]'(by simpa using hil) = false := by simpa using e1
      rw [e2]
      have h3 : 0 < List.countP (fun b => !b) listed.toList := List.countP_pos_iff.2 ⟨false, List.mem_iff_getElem.2 ⟨i, by simpa using hil, e2⟩, rfl⟩
      rw [if_pos (by rfl), if_neg (by simp)]
      omega
    have hgo : ∀ v w', Keeps Non w w' → G i v w' → wpAny P .any l.toArray Q fuel (listed.setIfInBounds i true) (a.put (some d) v) w' := fun v w' hk hg => ih _ _ _ (by simp [hs]) hcount (hnext v w' hk hg)
    have hwant : Region.wanted o (yielded l.toArray a.tmps) = true := by
      have h1 := hstep.1
      unfold Region.wanted
      cases hg : o.guard with
      | none => rfl
      | some gw =>
        obtain ⟨g, want⟩ := gw
        rw [hg] at h1
        obtain ⟨dg, hdg, hev⟩ := h1
        have hog : (l.toArray[g]?).bind (·.dst) = some dg := by
          have h2 := congrArg (·[g]?) s1
          simp only [List.getElem?_map, hdg, Option.map_some] at h2
          cases hx : l[g]? with
          | none => rw [hx] at h2; cases h2
          | some og =>
            rw [hx] at h2
            simp only [Option.map_some, Option.some.injEq] at h2
            simp [hx, h2]
        have hlt : dg < a.tmps.size := by
          have := s3 dg (List.mem_of_getElem? hdg)
          rw [hI.size]
          simpa using this
        rw [eval_tmp, Array.getElem?_eq_getElem hlt] at hev
        simp only [Option.getD_some] at hev
        show (yielded l.toArray a.tmps g == some want) = true
        unfold yielded
        rw [hog]
        simp [hlt, hev]
    unfold wpOp
    rw [ho]
    simp only [hwant, if_true]
    refine .inl ?_
    have h2 := hstep.2
    unfold Oper.wp
    generalize (execOp a.eval o).run P w = r at *
    cases r with
    | ok n w' =>
      cases n <;> simp only [mUpon] at h2 <;> simp only [Oper.upon]
      case value v => rw [hod]; exact hgo v w' h2.1 h2.2
      case skip => rw [hod]; exact hgo _ w' h2.1 h2.2
      case enter f args =>
        refine h2.mono fun e w'' ⟨v, he, hk, hg⟩ => ?_
        subst he
        rw [hod]
        exact hgo v w'' hk hg
    | halt x w' => simp only [mUpon] at h2
/-- What the slots hold, one fact each. -/
def mFacts (G : Nat → Value → World → Prop) (vs : Nat → Value) (w : World) : Nat → List Tmp → Prop
  | _, [] => True
  | i, d :: r => G i (vs d) w ∧ mFacts G vs w (i + 1) r
theorem mFacts_of {G : Nat → Value → World → Prop} {vs : Nat → Value} {w : World} : ∀ (l : List Tmp) (k : Nat), (∀ (i : Nat) (d : Tmp), l[i]? = some d → G (k + i) (vs d) w) → mFacts G vs w k l
  | [], _, _ => trivial
  | d :: r, k, h => ⟨h 0 d rfl, mFacts_of r (k + 1) fun i x hx => by
    have := h (i + 1) x (by simpa using hx)
    rw [show k + 1 + i = k + (i + 1) by omega]
    exact this⟩
theorem mFacts_at {G : Nat → Value → World → Prop} {vs : Nat → Value} {w : World} : ∀ {l : List Tmp} {k : Nat}, mFacts G vs w k l → ∀ (i : Nat) (d : Tmp), l[i]? = some d → G (k + i) (vs d) w
  | [], _, _, i, d, h => by simp at h
  | x :: r, k, h, 0, d, hd => by
    cases hd
    exact h.1
  | x :: r, k, h, i + 1, d, hd => by
    have := mFacts_at (l := r) (k := k + 1) h.2 i d (by simpa using hd)
    rw [show k + (i + 1) = k + 1 + i by omega]
    exact this
theorem wp_region_mono {id : Nat} {Q : Exit → Act → World → Prop} {a0 : Act} {w : World} {l : List Oper} (dsts : List Tmp) (base : List (Tmp × Value)) (G : Nat → Value → World → Prop)
    (hm : P.follows .mixedOrders = true) (hshape : mShape dsts base a0.tmps.size l = true) (hst : ∀ i v w w', G i v w → Keeps Non w w' → G i v w') (hbase : ∀ p ∈ base, a0.eval (.tmp p.1) = p.2) (hall : mAll P dsts base G w 0 l)
    (hQ : ∀ (vs : Nat → Value) w', Keeps Non w w' → mFacts G vs w' 0 dsts → Q .normal (putAll vs dsts a0) w') : (Code.region id l.toArray true).wp P Q a0 w := by
  refine wp_region_any hm (wpAny_mono hst hshape hbase hall ?_ _ _ _ _ (by simp) (by simp) ⟨(Keeps.refl Non w).drew, rfl, rfl, fun _ _ => rfl, fun i d _ h => ?_⟩)
  · intro a w' hI
    have hsh := hshape
    unfold mShape at hsh
    simp only [Bool.and_eq_true, decide_eq_true_eq, List.all_eq_true] at hsh
    obtain ⟨⟨⟨⟨s1, s2⟩, s3⟩, s4⟩, s5⟩ := hsh
    have hlen : l.length = dsts.length := by
      have := congrArg List.length s1
      simpa using this
    have h3 : ∀ d ∈ dsts, d < a0.tmps.size := fun d hd => by simpa using s3 d hd
    have e : a = putAll (fun d => a.eval (.tmp d)) dsts a0 := by
      have e1 : a.tmps = (putAll (fun d => a.eval (.tmp d)) dsts a0).tmps := by
        refine Array.ext_getElem? fun t => ?_
        rw [putAll_at _ _ _ _ h3]
        by_cases ht : t ∈ dsts
        · have := h3 t ht
          rw [if_pos ht, eval_tmp, Array.getElem?_eq_getElem (by rw [hI.size]; exact this)]
          rfl
        · rw [if_neg ht]
          exact hI.same t ht
      have e2 : a.defers = (putAll (fun d => a.eval (.tmp d)) dsts a0).defers := by rw [putAll_defers]; exact hI.defers
      cases a
      cases hq : putAll (fun d => Act.eval _ (.tmp d)) dsts a0
      rw [hq] at e1 e2
      simp only at e1 e2
      rw [e1, e2]
    rw [e]
    refine hQ _ w' hI.keep (mFacts_of dsts 0 fun i d hd => ?_)
    rw [Nat.zero_add]
    exact hI.done i d hd (by
      have : i < l.length := by rw [hlen]; exact (List.getElem?_eq_some_iff.1 hd).1
      simp [this])
  · rcases Nat.lt_or_ge i l.length with h' | h' <;> simp [h'] at h
end
end
section
open Go.RowKit
set_option linter.unusedVariables false
/-- The lists of a list, laid one after the other; what their slices are. -/
def layI (w : World) : List (List Int) → World × List Value
  | [] => (w, [])
  | [] :: r => ((layI w r).1, .slice none 0 0 :: (layI w r).2)
  | (x :: l) :: r => ((layI (w.alloc (.cells ((x :: l).map (Value.int .i64)).toArray 3)) r).1, .slice (some ⟨w.heap.size, 0, none⟩) (l.length + 1) (l.length + 1) :: (layI (w.alloc (.cells ((x :: l).map (Value.int .i64)).toArray 3)) r).2)
theorem layI_keeps : ∀ (xss : List (List Int)) (w : World), Keeps Non w (layI w xss).1
  | [], w => Keeps.refl _ _
  | [] :: r, w => layI_keeps r w
  | (x :: l) :: r, w => ((Keeps.refl Non w).alloc _).then (layI_keeps r _)
theorem layI_at : ∀ (xss : List (List Int)) (w : World), (∀ l ∈ xss, l.length ≤ 1000) → (layI w xss).2.length = xss.length ∧ ∀ j, j < xss.length → ∃ ai ci, (layI w xss).2[j]? = some (.slice ai (xss.getD j []).length ci) ∧ Ints (layI w xss).1 ai (xss.getD j []).length (xss.getD j [])
  | [], w, _ => ⟨rfl, fun j hj => by simp at hj⟩
  | [] :: r, w, hb => by
    obtain ⟨h1, h2⟩ := layI_at r w (fun l hl => hb l (List.mem_cons_of_mem _ hl))
    refine ⟨by simp [layI, h1], fun j hj => ?_⟩
    match j, hj with
    | 0, _ => exact ⟨none, 0, rfl, Ints.nil _ _⟩
    | j + 1, hj => exact h2 j (by simpa using hj)
  | (x :: l) :: r, w, hb => by
    obtain ⟨h1, h2⟩ := layI_at r (w.alloc (.cells ((x :: l).map (Value.int .i64)).toArray 3)) (fun l hl => hb l (List.mem_cons_of_mem _ hl))
    refine ⟨congrArg (· + 1) h1, fun j hj => ?_⟩
    match j, hj with
    | 0, _ => exact ⟨some ⟨w.heap.size, 0, none⟩, l.length + 1, rfl, (ints_laid w (x :: l) rfl (by have := hb (x :: l) List.mem_cons_self; omega)).non (layI_keeps r _)⟩
    | j + 1, hj => exact h2 j (by simpa using hj)
/-- Lists of lists, laid. -/
def layR (w : World) (xss : List (List Int)) : World := (layI w xss).1.alloc (.cells (layI w xss).2.toArray 22)
theorem layR_keeps (w : World) (xss : List (List Int)) : Keeps Non w (layR w xss) := (layI_keeps xss w).alloc _
theorem layR_rows (w : World) (xss : List (List Int)) {T : Nat} (hT : T = (layI w xss).1.heap.size) (hb : xss.length ≤ 1000) (hl : ∀ l ∈ xss, l.length ≤ 1000) {n : Nat} (hn : n ≤ xss.length) : Rows (layR w xss) (some ⟨T, 0, none⟩) n (xss.take n) := by
  obtain ⟨h1, h2⟩ := layI_at xss w hl
  have hB := Blk.newAt (layI w xss).1 (layI w xss).2 22 hT
  refine ⟨by simp; omega, by omega, .inr ⟨T, 0, rfl, hB.lt, fun j hj => ?_⟩⟩
  obtain ⟨ai, ci, h3, h4⟩ := h2 j (by omega)
  have e : (xss.take n).getD j [] = xss.getD j [] := by
    rw [List.getD_eq_getElem?_getD, List.getElem?_take, if_pos hj, ← List.getD_eq_getElem?_getD]
  rw [e]
  refine ⟨ai, ci, ?_, h4.non ((Keeps.refl Non _).alloc _)⟩
  have h5 := hB.cell j
  rw [h3] at h5
  rw [Nat.zero_add]
  exact h5
def someL : List (List Int) := [[], [0], [0, 0, 1], [0, 1, 0, 1], [0, 0, 1, 1], [0, 1, 2, 3], [1]]
def next4 : List (List Int) := [[0], [1, 0], [2, 1], [0, 0]]
def part5 : List (List Int) := [[0, 0, 0], [0, 0, 1], [0, 1, 0], [0, 1, 1], [0, 1, 2]]
theorem lay_some (w : World) : layR w someL = (((((((w.alloc (.cells #[.int .i64 0] 3)).alloc (.cells #[.int .i64 0, .int .i64 0, .int .i64 1] 3)).alloc (.cells #[.int .i64 0, .int .i64 1, .int .i64 0, .int .i64 1] 3)).alloc (.cells #[.int .i64 0, .int .i64 0, .int .i64 1, .int .i64 1] 3)).alloc (.cells #[.int .i64 0, .int .i64 1, .int .i64 2, .int .i64 3] 3)).alloc (.cells #[.int .i64 1] 3)).alloc
    (.cells #[.slice none 0 0, .slice (some ⟨w.heap.size, 0, none⟩) 1 1, .slice (some ⟨w.heap.size + 1, 0, none⟩) 3 3, .slice (some ⟨w.heap.size + 1 + 1, 0, none⟩) 4 4, .slice (some ⟨w.heap.size + 1 + 1 + 1, 0, none⟩) 4 4, .slice (some ⟨w.heap.size + 1 + 1 + 1 + 1, 0, none⟩) 4 4, .slice (some ⟨w.heap.size + 1 + 1 + 1 + 1 + 1, 0, none⟩) 1 1] 22)) := by
  simp [layR, layI, someL]
theorem lay_some_at (w : World) : w.heap.size + 1 + 1 + 1 + 1 + 1 + 1 = (layI w someL).1.heap.size := by
  simp [layI, someL]
theorem lay_next4 (w : World) : layR w next4 = (((((w.alloc (.cells #[.int .i64 0] 3)).alloc (.cells #[.int .i64 1, .int .i64 0] 3)).alloc (.cells #[.int .i64 2, .int .i64 1] 3)).alloc (.cells #[.int .i64 0, .int .i64 0] 3)).alloc
    (.cells #[.slice (some ⟨w.heap.size, 0, none⟩) 1 1, .slice (some ⟨w.heap.size + 1, 0, none⟩) 2 2, .slice (some ⟨w.heap.size + 1 + 1, 0, none⟩) 2 2, .slice (some ⟨w.heap.size + 1 + 1 + 1, 0, none⟩) 2 2] 22)) := by
  simp [layR, layI, next4]
theorem lay_next4_at (w : World) : w.heap.size + 1 + 1 + 1 + 1 = (layI w next4).1.heap.size := by
  simp [layI, next4]
theorem lay_part5 (w : World) : layR w part5 = ((((((w.alloc (.cells #[.int .i64 0, .int .i64 0, .int .i64 0] 3)).alloc (.cells #[.int .i64 0, .int .i64 0, .int .i64 1] 3)).alloc (.cells #[.int .i64 0, .int .i64 1, .int .i64 0] 3)).alloc (.cells #[.int .i64 0, .int .i64 1, .int .i64 1] 3)).alloc (.cells #[.int .i64 0, .int .i64 1, .int .i64 2] 3)).alloc
    (.cells #[.slice (some ⟨w.heap.size, 0, none⟩) 3 3, .slice (some ⟨w.heap.size + 1, 0, none⟩) 3 3, .slice (some ⟨w.heap.size + 1 + 1, 0, none⟩) 3 3, .slice (some ⟨w.heap.size + 1 + 1 + 1, 0, none⟩) 3 3, .slice (some ⟨w.heap.size + 1 + 1 + 1 + 1, 0, none⟩) 3 3] 22)) := by
  simp [layR, layI, part5]
theorem lay_part5_at (w : World) : w.heap.size + 1 + 1 + 1 + 1 + 1 = (layI w part5).1.heap.size := by
  simp [layI, part5]
theorem small_of (L : List (List Int)) (h : L.all (fun l => decide (l.length ≤ 1000) && l.all (fun x => decide (0 ≤ x) && decide (x ≤ 1000))) = true) : (∀ l ∈ L, l.length ≤ 1000) ∧ ∀ i, Good (L.getD i []) ∧ (L.getD i []).length ≤ 1000 := by
  have hl : ∀ l ∈ L, l.length ≤ 1000 ∧ ∀ x ∈ l, 0 ≤ x ∧ x ≤ 1000 := fun l hl => by
    have := List.all_eq_true.1 h l hl
    simp only [Bool.and_eq_true, decide_eq_true_eq, List.all_eq_true] at this
    exact this
  refine ⟨fun l h2 => (hl l h2).1, fun i => ?_⟩
  by_cases hi : i < L.length
  · have := hl _ (getD_mem (xs := L) (d := []) hi)
    exact ⟨good_small this.2, this.1⟩
  · rw [List.getD_eq_getElem?_getD, List.getElem?_eq_none (by omega)]
    exact ⟨fun x hx => (by simp at hx), by simp⟩
theorem some_small : (∀ l ∈ someL, l.length ≤ 1000) ∧ ∀ i, Good (someL.getD i []) ∧ (someL.getD i []).length ≤ 1000 := small_of someL (by decide)
theorem next4_small : (∀ l ∈ next4, l.length ≤ 1000) ∧ ∀ i, Good (next4.getD i []) ∧ (next4.getD i []).length ≤ 1000 := small_of next4 (by decide)
theorem part5_small : (∀ l ∈ part5, l.length ≤ 1000) ∧ ∀ i, Good (part5.getD i []) ∧ (part5.getD i []).length ≤ 1000 := small_of part5 (by decide)
theorem take_small {L : List (List Int)} (h : ∀ i, (L.getD i []).length ≤ 1000) (n i : Nat) : ((L.take n).getD i []).length ≤ 1000 := by
  rw [List.getD_eq_getElem?_getD, List.getElem?_take]
  split
  · rw [← List.getD_eq_getElem?_getD]
    exact h i
  · simp
theorem Ints.take {w : World} {a : Option Addr} {n : Nat} {xs : List Int} (h : Ints w a n xs) {m : Nat} (hm : m ≤ n) : Ints w a m (xs.take m) := by
  have hl := h.len
  have hb := h.big
  refine ⟨by simp; omega, by omega, ?_⟩
  rcases Nat.eq_zero_or_pos m with h0 | h0
  · exact .inl h0
  · obtain ⟨b, off, ha, lb, hc⟩ := h.at (by omega)
    refine .inr ⟨b, off, ha, lb, fun i hi => ?_⟩
    rw [hc i (by omega), List.getD_eq_getElem?_getD, List.getD_eq_getElem?_getD, List.getElem?_take, if_pos hi]
theorem good_take {xs : List Int} (h : Good xs) (m : Nat) : Good (xs.take m) := fun x hx => h x (List.mem_of_mem_take hx)
/-- A slice of few numbers. -/
def FitI (w : World) (v : Value) : Prop := ∃ a n cap p, v = .slice a n cap ∧ Ints w a n p ∧ Good p ∧ n ≤ 1000
theorem FitI.non {w w' : World} {v : Value} (h : FitI w v) (k : Keeps Non w w') : FitI w' v := by
  obtain ⟨a, n, cap, p, h1, hi, hg, hn⟩ := h
  exact ⟨a, n, cap, p, h1, hi.non k, hg, hn⟩
theorem pairs_fit {w0 w' : World} {v1 v2 : Value} (h1 : FitI w0 v1) (h2 : FitI w0 v2) (hk : Keeps Non w0 w') : Calls Try.prog 38 #[v1, v2] w' fun e w2 => e = .returned (.bool true) ∧ Keeps Non w' w2 := by
  obtain ⟨a, n, cap, p, rfl, hi, hg, hn⟩ := h1
  obtain ⟨a2, n2, cap2, p2, rfl, hi2, hg2, hn2⟩ := h2
  exact pairs_any a a2 n n2 cap cap2 p p2 w' (hi.non hk) (hi2.non hk) hg hg2 hn hn2
theorem steps_fit {w0 w' : World} {v1 : Value} {b : Option Addr} {m cap2 : Nat} {next : List (List Int)} (h1 : FitI w0 v1) (hk : Keeps Non w0 w') (h2 : Rows w' b m next) (hm : m ≤ 1000) (hs : ∀ i, (next.getD i []).length ≤ 1000) : Calls Try.prog 24 #[v1, .slice b m cap2] w' fun e w2 => e = .returned (.bool true) ∧ Keeps Non w' w2 := by
  obtain ⟨a, n, cap, p, rfl, hi, hg, hn⟩ := h1
  exact steps_any a b n m cap cap2 p next w' (hi.non hk) h2 hg hn hm hs
/-- A slice of a block of its own that reads xs. -/
def IsL (w : World) (v : Value) (xs : List Int) : Prop := ∃ b, v = .slice (some ⟨b, 0, none⟩) xs.length xs.length ∧ Ints w (some ⟨b, 0, none⟩) xs.length xs
theorem IsL.non {w w' : World} {v : Value} {xs : List Int} (h : IsL w v xs) (k : Keeps Non w w') : IsL w' v xs := by
  obtain ⟨b, h1, h2⟩ := h
  exact ⟨b, h1, h2.non k⟩
theorem isL_new (w : World) (xs : List Int) (h : xs.length ≤ 1000) : IsL (w.alloc (.cells (xs.map (Value.int .i64)).toArray 3)) (.slice (some ⟨w.heap.size, 0, none⟩) xs.length xs.length) xs := ⟨_, rfl, ints_laid w xs rfl (by omega)⟩
/-- Slices of lists, in a block. -/
def AllL (w : World) : List Value → List (List Int) → Prop
  | [], [] => True
  | v :: vs, xs :: xss => IsL w v xs ∧ AllL w vs xss
  | _, _ => False
theorem allL_at {w : World} : ∀ (vs : List Value) (xss : List (List Int)), AllL w vs xss → vs.length = xss.length ∧ ∀ i, i < xss.length → ∃ v, vs[i]? = some v ∧ IsL w v (xss.getD i [])
  | [], [], _ => ⟨rfl, fun i hi => by simp at hi⟩
  | [], _ :: _, h => h.elim
  | _ :: _, [], h => h.elim
  | v :: vs, xs :: xss, h => by
    obtain ⟨h1, h2⟩ := allL_at vs xss h.2
    refine ⟨by simp [h1], fun i hi => ?_⟩
    match i, hi with
    | 0, _ => exact ⟨v, rfl, h.1⟩
    | i + 1, hi => exact h2 i (by simpa using hi)
theorem rows_allL {w : World} {vs : List Value} {xss : List (List Int)} (h : AllL w vs xss) {n : Nat} (hn : n ≤ xss.length) (hb : xss.length ≤ 1000) : Rows (w.alloc (.cells vs.toArray 22)) (some ⟨w.heap.size, 0, none⟩) n (xss.take n) := by
  obtain ⟨h1, h2⟩ := allL_at vs xss h
  have hB := Blk.new w vs 22
  refine ⟨by simp; omega, by omega, .inr ⟨w.heap.size, 0, rfl, hB.lt, fun j hj => ?_⟩⟩
  obtain ⟨v, h3, b, h4, h5⟩ := h2 j (by omega)
  have e : (xss.take n).getD j [] = xss.getD j [] := by
    rw [List.getD_eq_getElem?_getD, List.getElem?_take, if_pos hj, ← List.getD_eq_getElem?_getD]
  rw [e]
  refine ⟨some ⟨b, 0, none⟩, (xss.getD j []).length, ?_, h5.non ((Keeps.refl Non _).alloc _)⟩
  have h6 := hB.cell j
  rw [h3, h4] at h6
  rw [Nat.zero_add]
  exact h6
/-- Rows of the call's own, in a row of its own, no two of which lie in one block. -/
structure OwnAt (base B : Nat) (w : World) (S : List Value) (xss : List (List Int)) : Prop where
  blk : Blk w B S 22
  len : S.length = xss.length
  row : ∀ i, i < xss.length → ∃ v, S[i]? = some v ∧ w.ownsRow base 3 1 v (xss.getD i []).length ((xss.getD i []).map (Value.int .i64))
  off : ∀ (i : Nat) (v : Value), S[i]? = some v → v.ownBlock ≠ some B
  apart : ∀ (i j : Nat) (v v' : Value), i ≠ j → S[i]? = some v → S[j]? = some v' → ∀ g, v.ownBlock = some g → v'.ownBlock ≠ some g
theorem OwnAt.rows {base B : Nat} {w : World} {S : List Value} {xss : List (List Int)} (h : OwnAt base B w S xss) (h1 : xss.length ≤ 1000) (h2 : ∀ i, (xss.getD i []).length ≤ 1000) : Rows w (some ⟨B, 0, none⟩) xss.length xss :=
  ⟨rfl, by omega, .inr ⟨B, 0, rfl, h.blk.lt, fun i hi => by
    obtain ⟨v, hv, ho⟩ := h.row i hi
    obtain ⟨a, cap, rfl, hI⟩ := ints_of_owns ho (by have := h2 i; omega)
    refine ⟨a, cap, ?_, hI⟩
    rw [h.blk.cell, Nat.zero_add]
    exact hv⟩⟩
/-- One row is made anew. -/
theorem OwnAt.put {w w1 w2 : World} {base B : Nat} {S : List Value} {xss : List (List Int)} (h : OwnAt base B w S xss) {b : Nat} (hb : b < xss.length) {v v' : Value} (hv : S[b]? = some v) (k : Keeps Non w w1) {ys : List Int}
    (hown : w2.ownsRow base 3 1 v' ys.length (ys.map (Value.int .i64))) (hgrow : w1.grownBy w2 v.ownBlock) (hat : v'.ownBlock = v.ownBlock ∨ (∀ g, v'.ownBlock = some g → w.heap.size ≤ g)) :
    OwnAt base B (w2.setCell ⟨B, b, none⟩ v') (S.set b v') (xss.set b ys) := by
  have hbl : b < S.length := by rw [h.len]; exact hb
  obtain ⟨v0, hv0, ho0⟩ := h.row b hb
  rw [hv] at hv0
  cases hv0
  have hvl := owns_lt ho0
  have hB2 : Blk w2 B S 22 := (h.blk.keeps k (fun x => x)).of_eq (hgrow.block B (h.blk.keeps k (fun x => x)).lt (fun e => h.off b v hv e.symm))
  have hv'B : v'.ownBlock ≠ some B := fun e => by
    rcases hat with h1 | h1
    · exact h.off b v hv (h1 ▸ e)
    · have := h1 B e
      have := h.blk.lt
      omega
  refine ⟨hB2.store b v', by simp [h.len], fun i hi => ?_, fun i x hx e => ?_, fun i j x y hij hx hy g hg hg2 => ?_⟩
  · rw [List.length_set] at hi
    rw [getD_set hb]
    by_cases hbi : b = i
    · subst hbi
      refine ⟨v', by simp [hbl], ?_⟩
      rw [if_pos rfl]
      refine owns_of_block hown fun g hg => ?_
      exact Below.heap_setCell _ _ _ _ (by
        show g ≠ B
        rintro rfl
        exact hv'B hg)
    · rw [if_neg hbi]
      obtain ⟨u, hu, ho⟩ := h.row i hi
      refine ⟨u, by rw [List.getElem?_set, if_neg hbi]; exact hu, ?_⟩
      refine owns_of_block ho fun g hg => ?_
      have h1 := owns_lt ho g hg
      have h2 : w2.heap[g]? = w1.heap[g]? := hgrow.block g (Nat.lt_of_lt_of_le h1.2 k.size) (fun e => h.apart b i v u hbi hv hu g e.symm hg)
      rw [Below.heap_setCell _ _ _ _ (by
        show g ≠ B
        rintro rfl
        exact h.off i u hu hg), h2]
      exact k.block g h1.2 (fun x => x)
  · rw [List.getElem?_set] at hx
    by_cases hbi : b = i
    · rw [if_pos hbi, if_pos hbl] at hx
      cases hx
      exact hv'B e
    · rw [if_neg hbi] at hx
      exact h.off i x hx e
  · rw [List.getElem?_set] at hx hy
    by_cases hbi : b = i
    · subst hbi
      rw [if_pos rfl, if_pos hbl] at hx
      cases hx
      rw [if_neg hij] at hy
      rcases hat with h1 | h1
      · exact h.apart b j v y hij hv hy g (by rw [← h1]; exact hg) hg2
      · have h2 := h1 g hg
        obtain ⟨y0, hy0, hoy⟩ := h.row j (by
          have := (List.getElem?_eq_some_iff.1 hy).1
          rw [← h.len]
          exact this)
        rw [hy] at hy0
        cases hy0
        have := owns_lt hoy g hg2
        omega
    · rw [if_neg hbi] at hx
      by_cases hbj : b = j
      · subst hbj
        rw [if_pos rfl, if_pos hbl] at hy
        cases hy
        rcases hat with h1 | h1
        · exact h.apart i b x v hij hx hv g hg (by rw [← h1]; exact hg2)
        · have h2 := h1 g hg2
          obtain ⟨x0, hx0, hox⟩ := h.row i (by
            have := (List.getElem?_eq_some_iff.1 hx).1
            rw [← h.len]
            exact this)
          rw [hx] at hx0
          cases hx0
          have := owns_lt hox g hg
          omega
      · rw [if_neg hbj] at hy
        exact h.apart i j x y hij hx hy g hg hg2
theorem owns_one {w : World} {base g : Nat} {x : Int} (h : Blk w g [.int .i64 x] 3) (hg : base ≤ g) : w.ownsRow base 3 1 (.slice (some ⟨g, 0, none⟩) 1 1) ([x] : List Int).length (([x] : List Int).map (Value.int .i64)) :=
  ⟨by simp, .inr ⟨g, 1, #[.int .i64 x], rfl, hg, h, Nat.le_refl _, by unfold maxLen; omega, by simp, by simp⟩⟩
/-- Three lists of one. -/
def lay1 (w : World) (x y z : Int) : World := (((w.alloc (.cells #[.int .i64 x] 3)).alloc (.cells #[.int .i64 y] 3)).alloc (.cells #[.int .i64 z] 3)).alloc (.cells #[.slice (some ⟨w.heap.size, 0, none⟩) 1 1, .slice (some ⟨w.heap.size + 1, 0, none⟩) 1 1, .slice (some ⟨w.heap.size + 1 + 1, 0, none⟩) 1 1] 22)
def lay1S (g : Nat) : List Value := [.slice (some ⟨g, 0, none⟩) 1 1, .slice (some ⟨g + 1, 0, none⟩) 1 1, .slice (some ⟨g + 1 + 1, 0, none⟩) 1 1]
theorem lay1_keeps (w : World) (x y z : Int) : Keeps Non w (lay1 w x y z) := ((((Keeps.refl Non w).alloc _).alloc _).alloc _).alloc _
theorem lay1_own (w : World) (x y z : Int) : OwnAt w.heap.size (w.heap.size + 1 + 1 + 1) (lay1 w x y z) (lay1S w.heap.size) [[x], [y], [z]] := by
  have k := fun (u : World) (o : Obj) => (Keeps.refl Non u).alloc o
  have b0 : Blk (lay1 w x y z) w.heap.size [.int .i64 x] 3 := (((Blk.new w [.int .i64 x] 3).keeps (k _ _) (fun x => x)).keeps (k _ _) (fun x => x)).keeps (k _ _) (fun x => x)
  have b1 : Blk (lay1 w x y z) (w.heap.size + 1) [.int .i64 y] 3 := ((Blk.newAt (w.alloc (.cells #[.int .i64 x] 3)) [.int .i64 y] 3 (by simp)).keeps (k _ _) (fun x => x)).keeps (k _ _) (fun x => x)
  have b2 : Blk (lay1 w x y z) (w.heap.size + 1 + 1) [.int .i64 z] 3 := (Blk.newAt ((w.alloc (.cells #[.int .i64 x] 3)).alloc (.cells #[.int .i64 y] 3)) [.int .i64 z] 3 (by simp)).keeps (k _ _) (fun x => x)
  have b3 : Blk (lay1 w x y z) (w.heap.size + 1 + 1 + 1) (lay1S w.heap.size) 22 := Blk.newAt (((w.alloc (.cells #[.int .i64 x] 3)).alloc (.cells #[.int .i64 y] 3)).alloc (.cells #[.int .i64 z] 3)) (lay1S w.heap.size) 22 (by simp)
  obtain ⟨g, hg⟩ : ∃ g, w.heap.size = g := ⟨_, rfl⟩
  rw [hg] at b0 b1 b2 b3 ⊢
  have hat : ∀ (i : Nat) (v : Value), (lay1S g)[i]? = some v → v.ownBlock = some (g + i) ∧ i < 3 := fun i v hv => by
    match i with
    | 0 => cases hv; exact ⟨rfl, by omega⟩
    | 1 => cases hv; exact ⟨rfl, by omega⟩
    | 2 => cases hv; exact ⟨rfl, by omega⟩
    | i + 3 => simp [lay1S] at hv
  refine ⟨b3, rfl, fun i hi => ?_, fun i v hv e => ?_, fun i j v v' hij hv hv' q hq he => ?_⟩
  · match i, hi with
    | 0, _ => exact ⟨_, rfl, owns_one b0 (by omega)⟩
    | 1, _ => exact ⟨_, rfl, owns_one b1 (by omega)⟩
    | 2, _ => exact ⟨_, rfl, owns_one b2 (by omega)⟩
  · obtain ⟨h1, h2⟩ := hat i v hv
    rw [e] at h1
    have := Option.some.inj h1
    omega
  · rw [(hat i v hv).1] at hq
    rw [(hat j v' hv').1] at he
    have h1 := Option.some.inj hq
    have h2 := Option.some.inj he
    omega
theorem isL_made (w : World) (n : Nat) (hn : n ≤ 1000) : IsL (w.alloc (.cells (Array.replicate n (.int .i64 0)) 3)) (.slice (some ⟨w.heap.size, 0, none⟩) n n) (List.replicate n 0) := by
  have h := isL_new w (List.replicate n 0) (by simp; omega)
  rw [List.map_replicate, List.length_replicate, List.toArray_replicate] at h
  exact h
/-- A slice of lists. -/
def IsR (w : World) (v : Value) (xss : List (List Int)) : Prop := ∃ b, v = .slice (some ⟨b, 0, none⟩) xss.length xss.length ∧ Rows w (some ⟨b, 0, none⟩) xss.length xss
theorem IsR.non {w w' : World} {v : Value} {xss : List (List Int)} (h : IsR w v xss) (k : Keeps Non w w') : IsR w' v xss := by
  obtain ⟨b, h1, h2⟩ := h
  exact ⟨b, h1, h2.non k⟩
theorem isR_allL {w : World} {vs : List Value} {xss : List (List Int)} (h : AllL w vs xss) (hb : xss.length ≤ 1000) : IsR (w.alloc (.cells vs.toArray 22)) (.slice (some ⟨w.heap.size, 0, none⟩) xss.length xss.length) xss := by
  have hr := rows_allL h (Nat.le_refl _) hb
  rw [List.take_length] at hr
  exact ⟨_, rfl, hr⟩
theorem isR_nil (w : World) : IsR (w.alloc (.cells #[.slice none 0 0] 22)) (.slice (some ⟨w.heap.size, 0, none⟩) 1 1) [[]] := by
  have hbn := Blk.new w [.slice none 0 0] 22
  exact ⟨_, rfl, rfl, by decide, .inr ⟨w.heap.size, 0, rfl, hbn.lt, fun i hi => by
    obtain rfl : i = 0 := by simpa using hi
    exact ⟨none, 0, hbn.cell 0, Ints.nil _ _⟩⟩⟩
/-- What comes next, seven ways. -/
def nexts : List (List (List Int)) := [[], [[]], [[0], [0]], [[-1]], [[1]], [List.replicate 64 0], [List.replicate 65 0]]
theorem nexts_small : ∀ i j, (((nexts.getD i []).getD j []).length ≤ 1000) := by
  have h : ∀ L ∈ nexts, ∀ l ∈ L, l.length ≤ 1000 := by
    intro L hL l hl
    simp only [nexts, List.mem_cons, List.not_mem_nil, or_false] at hL
    rcases hL with rfl | rfl | rfl | rfl | rfl | rfl | rfl <;> simp only [List.mem_cons, List.not_mem_nil, or_false] at hl <;> (first | exact hl.elim | skip) <;> (first | (rcases hl with rfl | rfl) | subst hl) <;> simp
  intro i j
  by_cases hi : i < nexts.length
  · by_cases hj : j < (nexts.getD i []).length
    · exact h _ (getD_mem hi) _ (getD_mem hj)
    · rw [List.getD_eq_getElem?_getD (l := nexts.getD i []), List.getElem?_eq_none (by omega)]
      simp
  · rw [List.getD_eq_getElem?_getD (l := nexts), List.getElem?_eq_none (by omega)]
    simp
theorem nexts_len (i : Nat) (h : i < 7) : (nexts.getD i []).length ≤ 1000 := by
  match i, h with
  | 0, _ => decide
  | 1, _ => decide
  | 2, _ => decide
  | 3, _ => decide
  | 4, _ => decide
  | 5, _ => decide
  | 6, _ => decide
/-- A block of seven slices of lists. -/
def Is7 (w : World) (v : Value) : Prop := ∃ b S, v = .slice (some ⟨b, 0, none⟩) 7 7 ∧ Blk w b S 36 ∧ ∀ i, i < 7 → ∃ a c, S[i]? = some (.slice a (nexts.getD i []).length c) ∧ Rows w a (nexts.getD i []).length (nexts.getD i [])
theorem Is7.non {w w' : World} {v : Value} (h : Is7 w v) (k : Keeps Non w w') : Is7 w' v := by
  obtain ⟨b, S, h1, h2, h3⟩ := h
  refine ⟨b, S, h1, h2.keeps k (fun x => x), fun i hi => ?_⟩
  obtain ⟨a, c, h4, h5⟩ := h3 i hi
  exact ⟨a, c, h4, h5.non k⟩
theorem is7_new {w : World} {v1 v2 v3 v4 v5 v6 : Value} (h1 : IsR w v1 [[]]) (h2 : IsR w v2 [[0], [0]]) (h3 : IsR w v3 [[-1]]) (h4 : IsR w v4 [[1]]) (h5 : IsR w v5 [List.replicate 64 0]) (h6 : IsR w v6 [List.replicate 65 0]) :
    Is7 (w.alloc (.cells #[.slice none 0 0, v1, v2, v3, v4, v5, v6] 36)) (.slice (some ⟨w.heap.size, 0, none⟩) 7 7) := by
  refine ⟨w.heap.size, [.slice none 0 0, v1, v2, v3, v4, v5, v6], rfl, Blk.new w [.slice none 0 0, v1, v2, v3, v4, v5, v6] 36, fun i hi => ?_⟩
  have k := (Keeps.refl Non w).alloc (.cells #[.slice none 0 0, v1, v2, v3, v4, v5, v6] 36)
  match i, hi with
  | 0, _ => exact ⟨none, 0, rfl, rfl, by decide, .inl rfl⟩
  | 1, _ => obtain ⟨b, rfl, h⟩ := h1; exact ⟨_, _, rfl, h.non k⟩
  | 2, _ => obtain ⟨b, rfl, h⟩ := h2; exact ⟨_, _, rfl, h.non k⟩
  | 3, _ => obtain ⟨b, rfl, h⟩ := h3; exact ⟨_, _, rfl, h.non k⟩
  | 4, _ => obtain ⟨b, rfl, h⟩ := h4; exact ⟨_, _, rfl, h.non k⟩
  | 5, _ => obtain ⟨b, rfl, h⟩ := h5; exact ⟨_, _, rfl, h.non k⟩
  | 6, _ => obtain ⟨b, rfl, h⟩ := h6; exact ⟨_, _, rfl, h.non k⟩
end
section
open Go.RowKit
set_option linter.unusedVariables false
theorem numb_fresh : ∀ (L met : List Int), (∀ x ∈ L, x ∉ met) → L.Nodup → numb met L = (List.range L.length).map (fun i => ((met.length + i : Nat) : Int))
  | [], met, _, _ => rfl
  | x :: r, met, h, hn => by
    rw [List.nodup_cons] at hn
    unfold numb
    rw [if_neg (h x List.mem_cons_self), numb_fresh r (met ++ [x]) (fun y hy hm => by
      rcases List.mem_append.1 hm with e | e
      · exact h y (List.mem_cons_of_mem _ hy) e
      · rw [List.mem_singleton.1 e] at hy
        exact hn.1 hy) hn.2]
    rw [List.length_cons, List.range_succ_eq_map, List.map_cons, List.map_map]
    congr 1
    refine List.map_congr_left fun i _ => ?_
    simp
    omega
theorem numb_nodup {L : List Int} (h : L.Nodup) {n : Nat} (hl : L.length = n) : numb [] L = upTo n := by
  rw [numb_fresh L [] (fun _ _ hm => by cases hm) h, hl]
  unfold upTo
  refine List.map_congr_left fun i _ => ?_
  simp
theorem up_take {n m : Nat} (h : m ≤ n) : (upTo n).take m = upTo m := by
  unfold upTo
  rw [← List.map_take, List.take_range, Nat.min_eq_left h]
theorem up_good {n : Nat} (h : n ≤ 10000) : Good (upTo n) := fun x hx => by
  have := upTo_mem.1 hx
  exact wf_of (by omega) (by omega)
theorem up_right {n : Nat} (h : n = 1024) : rightB (upTo n) = true := by
  rw [rightB_iff]
  exact ⟨by rw [upTo_length]; omega, numb_nodup (upTo_nodup n) (upTo_length n)⟩
theorem up_wrong {n : Nat} (h : 1024 < n) : rightB (upTo n) = false := by
  refine rightB_not fun hr => ?_
  have := (rightB_iff.1 hr).1
  rw [upTo_length] at this
  omega
theorem Ints.drop1 {w : World} {b n : Nat} {xs : List Int} (h : Ints w (some ⟨b, 0, none⟩) (n + 1) xs) : Ints w (some ⟨b, 1, none⟩) n (xs.drop 1) := by
  have hl := h.len
  have hb := h.big
  obtain ⟨b9, off, ha, lb, hc⟩ := h.at (by omega)
  cases ha
  refine ⟨by simp; omega, by omega, .inr ⟨b, 1, rfl, lb, fun i hi => ?_⟩⟩
  have h1 := hc (1 + i) (by omega)
  rw [Nat.zero_add] at h1
  rw [h1, List.getD_eq_getElem?_getD, List.getD_eq_getElem?_getD, List.getElem?_drop]
theorem drop_good {xs : List Int} (h : Good xs) (n : Nat) : Good (xs.drop n) := fun x hx => h x (List.mem_of_mem_drop hx)
/-- Of over 1, 2, .. -/
theorem of_rest {n : Nat} (hn : n = 1024) (T cap : Nat) (w : World) (h : Ints w (some ⟨T, 0, none⟩) (n + 1) (upTo (n + 1))) :
    Calls Try.prog 17 #[.slice (some ⟨T, 1, none⟩) n cap] w fun e w' => ∃ b, e = .returned (.tuple #[.slice (some ⟨b, 0, none⟩) n n, .int .i64 0]) ∧ Ints w' (some ⟨b, 0, none⟩) n (upTo n) ∧ Keeps Non w w' := by
  have hd : ((upTo (n + 1)).drop 1).length = n := by rw [List.length_drop, upTo_length]; omega
  have e : numb [] ((upTo (n + 1)).drop 1) = upTo n := numb_nodup ((upTo_nodup (n + 1)).sublist (List.drop_sublist _ _)) hd
  refine (ofInt_l (some ⟨T, 1, none⟩) n cap _ w h.drop1 (by omega) (drop_good (up_good (by omega)) 1)).mono ?_
  rintro e1 w' ⟨v, h1, b, h2, h3, h4, h5⟩
  rw [e, upTo_length] at h2
  rw [e] at h4
  have hI := ints_of_blk h4 (by rw [upTo_length]; omega)
  rw [upTo_length] at hI
  exact ⟨b, by rw [h1, h2], hI, h5⟩
theorem keys_up {n : Nat} (hn : n ≤ 10000) {a : Option Addr} {cap : Nat} {w : World} (h : Ints w a n (upTo n)) :
    Calls Try.prog 3 #[.slice a n cap, .slice none 0 0] w fun e w' => e = .returned (.bool true) ∧ Keeps Non w w' :=
  law_keys a none n cap 0 0 (upTo n) [] w ⟨h.len, by omega, h.cell, up_good hn⟩ ⟨rfl, by omega, .inl rfl, fun x hx => by cases hx⟩
theorem row_up {w : World} {T n i : Nat} (h : Blk w T (rowL (upTo i) n) 3) (hi : i < n) : Blk (w.setCell ⟨T, i, none⟩ (.int .i64 i)) T (rowL (upTo (i + 1)) n) 3 := by
  have h1 := h.store i (.int .i64 i)
  have h2 := rowL_set (upTo i) n i (by rw [upTo_length]; exact hi)
  rw [upTo_length, upTo_snoc] at h2
  rw [h2] at h1
  exact h1
theorem row_full {w : World} {T n : Nat} (h : Blk w T (rowL (upTo n) n) 3) (hn : n ≤ 10000) : Ints w (some ⟨T, 0, none⟩) n (upTo n) := by
  unfold rowL at h
  rw [upTo_length, Nat.sub_self, List.replicate_zero, List.append_nil] at h
  have := ints_of_blk h (by rw [upTo_length]; omega)
  rw [upTo_length] at this
  exact this
theorem row_none (w : World) {T n : Nat} (hT : w.heap.size = T) : Blk (w.alloc (.cells (Array.replicate n (.int .i64 0)) 3)) T (rowL (upTo 0) n) 3 := by
  have e : rowL (upTo 0) n = List.replicate n (.int .i64 0) := by simp [rowL, upTo]
  rw [e, ← List.toArray_replicate]
  exact Blk.newAt w (List.replicate n (.int .i64 0)) 3 hT.symm
end
end Go.Proofs.Ytkcbahfmdokalaa
