/-
  The walk over FaultInner: it returns true, and turns nothing that was there. No condition.
-/
import Derived.Test.YtfjofiofgjlgiaaR
import Derived.Laws.StructEq
namespace Go.Proofs.Ytfjofiofgjlgiaa
open Go.RowKit
theorem neS (p0 p1 : Int) (w : World) : (binOp .neq 23 (.agg #[.int .u8 p0, .int .i64 p1]) (.agg #[.int .u8 p0, .int .i64 p1])).run Try.prog w = .ok (.bool false) w := by
  have u3 := Try.underlying3
  have u5 := Try.underlying5
  have hS : Try.prog.underlying 23 = some (.struct (Try.prog.fieldsOf 23)) := by kernel_rfl
  have hp : Try.prog.stoodInHeld 23 = false := by kernel_rfl
  rw [run_neq_struct, show (10000 : Nat) = 9999 + 1 from rfl, run_equalIn_agg w 9999 23 _ _ hS hp]
  simp only [Program.fieldsOf, Try.underlying23]
  go_simp
theorem nil_ne (w : World) : (binOp .neq 20 .nilIface .nilIface).run Try.prog w = .ok (.bool false) w := by kernel_rfl
theorem inn_start (w : World) (a b : Int) (odd : Bool) (p q : Int) :
    Keeps Non w ((((((((((w.alloc (Obj.cells #[Value.int IntKind.i64 a] 3)).alloc (Obj.cells #[Value.int IntKind.i64 b] 3)).alloc (Obj.cells #[Value.bool odd] 4)).alloc
        (Obj.cells #[Value.int IntKind.u8 p] 5)).alloc (Obj.cells #[Value.int IntKind.u8 q] 5)).alloc (Obj.cells #[Value.int IntKind.u8 0, Value.int IntKind.i64 0] 23)).alloc
        (Obj.cells #[Value.bool false] 4)).alloc (Obj.cells #[Value.int IntKind.i64 0] 3)).alloc (Obj.cells #[Value.int IntKind.u8 0, Value.int IntKind.i64 0] 23)).alloc (Obj.cells #[Value.bool false] 4)) ∧
    Inn ((((((((((w.alloc (Obj.cells #[Value.int IntKind.i64 a] 3)).alloc (Obj.cells #[Value.int IntKind.i64 b] 3)).alloc (Obj.cells #[Value.bool odd] 4)).alloc
        (Obj.cells #[Value.int IntKind.u8 p] 5)).alloc (Obj.cells #[Value.int IntKind.u8 q] 5)).alloc (Obj.cells #[Value.int IntKind.u8 0, Value.int IntKind.i64 0] 23)).alloc
        (Obj.cells #[Value.bool false] 4)).alloc (Obj.cells #[Value.int IntKind.i64 0] 3)).alloc (Obj.cells #[Value.int IntKind.u8 0, Value.int IntKind.i64 0] 23)).alloc (Obj.cells #[Value.bool false] 4)) w.heap.size a b odd p q := by
  refine ⟨?_, ?_⟩
  · repeat (first | exact Keeps.refl _ _ | apply Keeps.alloc)
  · refine ⟨?_, ?_, ?_, ?_, ?_, ?_, ?_, ?_, ?_, ?_⟩
    · exact (((((((((Blk.newAt _ [Value.int IntKind.i64 a] 3 (by simp)).alloc _).alloc _).alloc _).alloc _).alloc _).alloc _).alloc _).alloc _).alloc _
    · exact ((((((((Blk.newAt _ [Value.int IntKind.i64 b] 3 (by simp)).alloc _).alloc _).alloc _).alloc _).alloc _).alloc _).alloc _).alloc _
    · exact (((((((Blk.newAt _ [Value.bool odd] 4 (by simp)).alloc _).alloc _).alloc _).alloc _).alloc _).alloc _).alloc _
    · exact ((((((Blk.newAt _ [Value.int IntKind.u8 p] 5 (by simp)).alloc _).alloc _).alloc _).alloc _).alloc _).alloc _
    · exact (((((Blk.newAt _ [Value.int IntKind.u8 q] 5 (by simp)).alloc _).alloc _).alloc _).alloc _).alloc _
    · exact ((((Blk.newAt _ [Value.int IntKind.u8 0, Value.int IntKind.i64 0] 23 (by simp)).alloc _).alloc _).alloc _).alloc _
    · exact (((Blk.newAt _ [Value.bool false] 4 (by simp)).alloc _).alloc _).alloc _
    · exact ((Blk.newAt _ [Value.int IntKind.i64 0] 3 (by simp)).alloc _).alloc _
    · exact (Blk.newAt _ [Value.int IntKind.u8 0, Value.int IntKind.i64 0] 23 (by simp)).alloc _
    · exact Blk.newAt _ [Value.bool false] 4 (by simp)

set_option maxHeartbeats 1000000 in
theorem inner_odd (first second : Int) (a b : Int) (w : World) (h1 : 0 ≤ first) (h2 : first ≤ 255) (h3 : 0 ≤ second) (h4 : second ≤ 255) :
    Calls Try.prog 3 #[.int .u8 first, .int .u8 second, .int .i64 a, .int .i64 b, .bool true] w fun e w' => e = .returned (.bool true) ∧ Keeps Non w w' := by
  have hmf : ∀ (fn : Fn) (first cap : Array Value) (w : World), (Instr.makeFunc fn first cap).run Try.prog w = .ok (.func fn first cap) w := fun _ _ _ _ => rfl
  have t1 := te_nil
  have t2 := te_yes
  have t3 := neS
  have t4 := nil_ne
  have t5 := eq_nil
  obtain ⟨W, hW⟩ : ∃ W, ((((((((((w.alloc (Obj.cells #[Value.int IntKind.i64 a] 3)).alloc (Obj.cells #[Value.int IntKind.i64 b] 3)).alloc (Obj.cells #[Value.bool true] 4)).alloc
        (Obj.cells #[Value.int IntKind.u8 (first % 3)] 5)).alloc (Obj.cells #[Value.int IntKind.u8 (second % 3)] 5)).alloc (Obj.cells #[Value.int IntKind.u8 0, Value.int IntKind.i64 0] 23)).alloc
        (Obj.cells #[Value.bool false] 4)).alloc (Obj.cells #[Value.int IntKind.i64 0] 3)).alloc (Obj.cells #[Value.int IntKind.u8 0, Value.int IntKind.i64 0] 23)).alloc (Obj.cells #[Value.bool false] 4)) = W := ⟨_, rfl⟩
  obtain ⟨hkW, hin⟩ := inn_start w a b true (first % 3) (second % 3)
  rw [hW] at hkW hin
  have HC := o12_odd w.heap.size a b (first % 3) (second % 3) W hin
  unfold cap12 at HC
  have HC := hide HC
  have HW := hide hW
  clear hW
  go_enter Try.func3, Try.ntmps3
  go_wp2_with fail
  all_goals
    rw [HW.out]
    refine HC.out.mono ?_
    rintro e w2 ⟨v, rfl, hk, hr⟩
    have la := hr.r.inner.lt
    have lo := hr.out.lt
    have s0 : w2.cell? ⟨w.heap.size + 1 + 1 + 1 + 1 + 1 + 1 + 1, 0, none⟩ = some (.int .i64 1) := hr.r.steps.cell 0
    have i0 : w2.cell? ⟨w.heap.size + 1 + 1 + 1 + 1 + 1, 0, none⟩ = some (.int .u8 0) := hr.r.inner.cell 0
    have i1 : w2.cell? ⟨w.heap.size + 1 + 1 + 1 + 1 + 1, 1, none⟩ = some (.int .i64 0) := hr.r.inner.cell 1
    have n0 : w2.cell? ⟨w.heap.size + 1 + 1 + 1 + 1 + 1 + 1, 0, none⟩ = some (.bool false) := hr.r.is.cell 0
    have u0 : w2.cell? ⟨w.heap.size + 1 + 1 + 1 + 1 + 1 + 1 + 1 + 1, 0, none⟩ = some (.int .u8 0) := hr.outer.cell 0
    have u1 : w2.cell? ⟨w.heap.size + 1 + 1 + 1 + 1 + 1 + 1 + 1 + 1, 1, none⟩ = some (.int .i64 0) := hr.outer.cell 1
    have o0 : w2.cell? ⟨w.heap.size + 1 + 1 + 1 + 1 + 1 + 1 + 1 + 1 + 1, 0, none⟩ = some (.bool false) := hr.out.cell 0
    have a0 : w2.cell? ⟨w.heap.size, 0, none⟩ = some (.int .i64 a) := (hin.a.keeps hk (by simp [S12, S14])).cell 0
    have b0 : w2.cell? ⟨w.heap.size + 1, 0, none⟩ = some (.int .i64 b) := (hin.b.keeps hk (by simp [S12, S14])).cell 0
    have d0 : w2.cell? ⟨w.heap.size + 1 + 1, 0, none⟩ = some (.bool true) := (hin.odd.keeps hk (by simp [S12, S14])).cell 0
    have p0 : w2.cell? ⟨w.heap.size + 1 + 1 + 1, 0, none⟩ = some (.int .u8 (first % 3)) := (hin.p.keeps hk (by simp [S12, S14])).cell 0
    have q0 : w2.cell? ⟨w.heap.size + 1 + 1 + 1 + 1, 0, none⟩ = some (.int .u8 (second % 3)) := (hin.q.keeps hk (by simp [S12, S14])).cell 0
    have hkw : Keeps Non w w2 := hkW.trans (hk.weak (T := fun i => w.heap.size ≤ i) (by intro i _ h; simp only [S12, S14] at h; omega)) (fun i hi hx => absurd hx (by omega))
    have HA := hide hkw
    clear HC HW hkw hkW hin hk hr
    go_wp2_with (go_at_call 18; refine (awake_any _).mono ?_; rintro e w' ⟨rfl, hk⟩)
    go_ret
    exact ⟨rfl, Keeps.then (by repeat (first | exact HA.out | apply Keeps.alloc)) (by assumption)⟩

set_option maxHeartbeats 1000000 in
theorem inner_ff (first second : Int) (a b : Int) (w : World) (h1 : 0 ≤ first) (h2 : first ≤ 255) (h3 : 0 ≤ second) (h4 : second ≤ 255) (hp0 : 0 < first % 3) (hq0 : 0 < second % 3) :
    Calls Try.prog 3 #[.int .u8 first, .int .u8 second, .int .i64 a, .int .i64 b, .bool false] w fun e w' => e = .returned (.bool true) ∧ Keeps Non w w' := by
  have hmf : ∀ (fn : Fn) (first cap : Array Value) (w : World), (Instr.makeFunc fn first cap).run Try.prog w = .ok (.func fn first cap) w := fun _ _ _ _ => rfl
  have t1 := te_nil
  have t2 := te_yes
  have t3 := neS
  have t4 := nil_ne
  have t5 := eq_nil
  obtain ⟨W, hW⟩ : ∃ W, ((((((((((w.alloc (Obj.cells #[Value.int IntKind.i64 a] 3)).alloc (Obj.cells #[Value.int IntKind.i64 b] 3)).alloc (Obj.cells #[Value.bool false] 4)).alloc
        (Obj.cells #[Value.int IntKind.u8 (first % 3)] 5)).alloc (Obj.cells #[Value.int IntKind.u8 (second % 3)] 5)).alloc (Obj.cells #[Value.int IntKind.u8 0, Value.int IntKind.i64 0] 23)).alloc
        (Obj.cells #[Value.bool false] 4)).alloc (Obj.cells #[Value.int IntKind.i64 0] 3)).alloc (Obj.cells #[Value.int IntKind.u8 0, Value.int IntKind.i64 0] 23)).alloc (Obj.cells #[Value.bool false] 4)) = W := ⟨_, rfl⟩
  obtain ⟨hkW, hin⟩ := inn_start w a b false (first % 3) (second % 3)
  rw [hW] at hkW hin
  have HC := o12_ff w.heap.size a b (first % 3) (second % 3) W hin (by simp [thereB]; omega) hp0 (by simp [thereB]; omega) hq0
  unfold O12 cap12 at HC
  have HC := hide HC
  have HW := hide hW
  clear hW
  go_enter Try.func3, Try.ntmps3
  go_wp2_with fail
  all_goals
    rw [HW.out]
    refine HC.out.mono ?_
    rintro e w2 ⟨rfl, hk, hr⟩
    have la := hr.r.inner.lt
    have lo := hr.out.lt
    have s0 : w2.cell? ⟨w.heap.size + 1 + 1 + 1 + 1 + 1 + 1 + 1, 0, none⟩ = some (.int .i64 101) := hr.r.steps.cell 0
    have i0 : w2.cell? ⟨w.heap.size + 1 + 1 + 1 + 1 + 1, 0, none⟩ = some (.int .u8 (first % 3)) := hr.r.inner.cell 0
    have i1 : w2.cell? ⟨w.heap.size + 1 + 1 + 1 + 1 + 1, 1, none⟩ = some (.int .i64 a) := hr.r.inner.cell 1
    have n0 : w2.cell? ⟨w.heap.size + 1 + 1 + 1 + 1 + 1 + 1, 0, none⟩ = some (.bool true) := hr.r.is.cell 0
    have u0 : w2.cell? ⟨w.heap.size + 1 + 1 + 1 + 1 + 1 + 1 + 1 + 1, 0, none⟩ = some (.int .u8 (second % 3)) := hr.outer.cell 0
    have u1 : w2.cell? ⟨w.heap.size + 1 + 1 + 1 + 1 + 1 + 1 + 1 + 1, 1, none⟩ = some (.int .i64 b) := hr.outer.cell 1
    have o0 : w2.cell? ⟨w.heap.size + 1 + 1 + 1 + 1 + 1 + 1 + 1 + 1 + 1, 0, none⟩ = some (.bool true) := hr.out.cell 0
    have a0 : w2.cell? ⟨w.heap.size, 0, none⟩ = some (.int .i64 a) := (hin.a.keeps hk (by simp [S12, S14])).cell 0
    have b0 : w2.cell? ⟨w.heap.size + 1, 0, none⟩ = some (.int .i64 b) := (hin.b.keeps hk (by simp [S12, S14])).cell 0
    have d0 : w2.cell? ⟨w.heap.size + 1 + 1, 0, none⟩ = some (.bool false) := (hin.odd.keeps hk (by simp [S12, S14])).cell 0
    have p0 : w2.cell? ⟨w.heap.size + 1 + 1 + 1, 0, none⟩ = some (.int .u8 (first % 3)) := (hin.p.keeps hk (by simp [S12, S14])).cell 0
    have q0 : w2.cell? ⟨w.heap.size + 1 + 1 + 1 + 1, 0, none⟩ = some (.int .u8 (second % 3)) := (hin.q.keeps hk (by simp [S12, S14])).cell 0
    have hkw : Keeps Non w w2 := hkW.trans (hk.weak (T := fun i => w.heap.size ≤ i) (by intro i _ h; simp only [S12, S14] at h; omega)) (fun i hi hx => absurd hx (by omega))
    have HA := hide hkw
    clear HC HW hkw hkW hin hk hr
    go_wp2_with (go_at_call 18; refine (awake_any _).mono ?_; rintro e w' ⟨rfl, hk⟩)
    go_ret
    exact ⟨rfl, Keeps.then (by repeat (first | exact HA.out | apply Keeps.alloc)) (by assumption)⟩

set_option maxHeartbeats 1000000 in
theorem inner_rf (first second : Int) (a b : Int) (w : World) (h1 : 0 ≤ first) (h2 : first ≤ 255) (h3 : 0 ≤ second) (h4 : second ≤ 255) (hp0 : first % 3 = 0) (hq0 : 0 < second % 3) :
    Calls Try.prog 3 #[.int .u8 first, .int .u8 second, .int .i64 a, .int .i64 b, .bool false] w fun e w' => e = .returned (.bool true) ∧ Keeps Non w w' := by
  have hmf : ∀ (fn : Fn) (first cap : Array Value) (w : World), (Instr.makeFunc fn first cap).run Try.prog w = .ok (.func fn first cap) w := fun _ _ _ _ => rfl
  have t1 := te_nil
  have t2 := te_yes
  have t3 := neS
  have t4 := nil_ne
  have t5 := eq_nil
  obtain ⟨W, hW⟩ : ∃ W, ((((((((((w.alloc (Obj.cells #[Value.int IntKind.i64 a] 3)).alloc (Obj.cells #[Value.int IntKind.i64 b] 3)).alloc (Obj.cells #[Value.bool false] 4)).alloc
        (Obj.cells #[Value.int IntKind.u8 0] 5)).alloc (Obj.cells #[Value.int IntKind.u8 (second % 3)] 5)).alloc (Obj.cells #[Value.int IntKind.u8 0, Value.int IntKind.i64 0] 23)).alloc
        (Obj.cells #[Value.bool false] 4)).alloc (Obj.cells #[Value.int IntKind.i64 0] 3)).alloc (Obj.cells #[Value.int IntKind.u8 0, Value.int IntKind.i64 0] 23)).alloc (Obj.cells #[Value.bool false] 4)) = W := ⟨_, rfl⟩
  obtain ⟨hkW, hin⟩ := inn_start w a b false 0 (second % 3)
  rw [hW] at hkW hin
  have HC := o12_rf w.heap.size a b (second % 3) W hin (by simp [thereB]; omega) hq0
  unfold O12 cap12 at HC
  have HC := hide HC
  have HW := hide hW
  clear hW
  go_enter Try.func3, Try.ntmps3
  go_wp2_with fail
  all_goals
    rw [HW.out]
    refine HC.out.mono ?_
    rintro e w2 ⟨rfl, hk, hr⟩
    have la := hr.r.inner.lt
    have lo := hr.out.lt
    have s0 : w2.cell? ⟨w.heap.size + 1 + 1 + 1 + 1 + 1 + 1 + 1, 0, none⟩ = some (.int .i64 111) := hr.r.steps.cell 0
    have i0 : w2.cell? ⟨w.heap.size + 1 + 1 + 1 + 1 + 1, 0, none⟩ = some (.int .u8 0) := hr.r.inner.cell 0
    have i1 : w2.cell? ⟨w.heap.size + 1 + 1 + 1 + 1 + 1, 1, none⟩ = some (.int .i64 0) := hr.r.inner.cell 1
    have n0 : w2.cell? ⟨w.heap.size + 1 + 1 + 1 + 1 + 1 + 1, 0, none⟩ = some (.bool false) := hr.r.is.cell 0
    have u0 : w2.cell? ⟨w.heap.size + 1 + 1 + 1 + 1 + 1 + 1 + 1 + 1, 0, none⟩ = some (.int .u8 (second % 3)) := hr.outer.cell 0
    have u1 : w2.cell? ⟨w.heap.size + 1 + 1 + 1 + 1 + 1 + 1 + 1 + 1, 1, none⟩ = some (.int .i64 b) := hr.outer.cell 1
    have o0 : w2.cell? ⟨w.heap.size + 1 + 1 + 1 + 1 + 1 + 1 + 1 + 1 + 1, 0, none⟩ = some (.bool true) := hr.out.cell 0
    have a0 : w2.cell? ⟨w.heap.size, 0, none⟩ = some (.int .i64 a) := (hin.a.keeps hk (by simp [S12, S14])).cell 0
    have b0 : w2.cell? ⟨w.heap.size + 1, 0, none⟩ = some (.int .i64 b) := (hin.b.keeps hk (by simp [S12, S14])).cell 0
    have d0 : w2.cell? ⟨w.heap.size + 1 + 1, 0, none⟩ = some (.bool false) := (hin.odd.keeps hk (by simp [S12, S14])).cell 0
    have p0 : w2.cell? ⟨w.heap.size + 1 + 1 + 1, 0, none⟩ = some (.int .u8 0) := (hin.p.keeps hk (by simp [S12, S14])).cell 0
    have q0 : w2.cell? ⟨w.heap.size + 1 + 1 + 1 + 1, 0, none⟩ = some (.int .u8 (second % 3)) := (hin.q.keeps hk (by simp [S12, S14])).cell 0
    have hkw : Keeps Non w w2 := hkW.trans (hk.weak (T := fun i => w.heap.size ≤ i) (by intro i _ h; simp only [S12, S14] at h; omega)) (fun i hi hx => absurd hx (by omega))
    have HA := hide hkw
    clear HC HW hkw hkW hin hk hr
    go_wp2_with (go_at_call 18; refine (awake_any _).mono ?_; rintro e w' ⟨rfl, hk⟩)
    go_ret
    exact ⟨rfl, Keeps.then (by repeat (first | exact HA.out | apply Keeps.alloc)) (by assumption)⟩

set_option maxHeartbeats 1000000 in
theorem inner_fr (first second : Int) (a b : Int) (w : World) (h1 : 0 ≤ first) (h2 : first ≤ 255) (h3 : 0 ≤ second) (h4 : second ≤ 255) (hp0 : 0 < first % 3) (hq0 : second % 3 = 0) :
    Calls Try.prog 3 #[.int .u8 first, .int .u8 second, .int .i64 a, .int .i64 b, .bool false] w fun e w' => e = .returned (.bool true) ∧ Keeps Non w w' := by
  have hmf : ∀ (fn : Fn) (first cap : Array Value) (w : World), (Instr.makeFunc fn first cap).run Try.prog w = .ok (.func fn first cap) w := fun _ _ _ _ => rfl
  have t1 := te_nil
  have t2 := te_yes
  have t3 := neS
  have t4 := nil_ne
  have t5 := eq_nil
  obtain ⟨W, hW⟩ : ∃ W, ((((((((((w.alloc (Obj.cells #[Value.int IntKind.i64 a] 3)).alloc (Obj.cells #[Value.int IntKind.i64 b] 3)).alloc (Obj.cells #[Value.bool false] 4)).alloc
        (Obj.cells #[Value.int IntKind.u8 (first % 3)] 5)).alloc (Obj.cells #[Value.int IntKind.u8 0] 5)).alloc (Obj.cells #[Value.int IntKind.u8 0, Value.int IntKind.i64 0] 23)).alloc
        (Obj.cells #[Value.bool false] 4)).alloc (Obj.cells #[Value.int IntKind.i64 0] 3)).alloc (Obj.cells #[Value.int IntKind.u8 0, Value.int IntKind.i64 0] 23)).alloc (Obj.cells #[Value.bool false] 4)) = W := ⟨_, rfl⟩
  obtain ⟨hkW, hin⟩ := inn_start w a b false (first % 3) 0
  rw [hW] at hkW hin
  have HC := o12_fr w.heap.size a b (first % 3) W hin (by simp [thereB]; omega) hp0
  unfold O12 cap12 at HC
  have HC := hide HC
  have HW := hide hW
  clear hW
  go_enter Try.func3, Try.ntmps3
  go_wp2_with fail
  all_goals
    rw [HW.out]
    refine HC.out.mono ?_
    rintro e w2 ⟨rfl, hk, hr⟩
    have la := hr.r.inner.lt
    have lo := hr.out.lt
    have s0 : w2.cell? ⟨w.heap.size + 1 + 1 + 1 + 1 + 1 + 1 + 1, 0, none⟩ = some (.int .i64 1101) := hr.r.steps.cell 0
    have i0 : w2.cell? ⟨w.heap.size + 1 + 1 + 1 + 1 + 1, 0, none⟩ = some (.int .u8 (first % 3)) := hr.r.inner.cell 0
    have i1 : w2.cell? ⟨w.heap.size + 1 + 1 + 1 + 1 + 1, 1, none⟩ = some (.int .i64 a) := hr.r.inner.cell 1
    have n0 : w2.cell? ⟨w.heap.size + 1 + 1 + 1 + 1 + 1 + 1, 0, none⟩ = some (.bool true) := hr.r.is.cell 0
    have u0 : w2.cell? ⟨w.heap.size + 1 + 1 + 1 + 1 + 1 + 1 + 1 + 1, 0, none⟩ = some (.int .u8 0) := hr.outer.cell 0
    have u1 : w2.cell? ⟨w.heap.size + 1 + 1 + 1 + 1 + 1 + 1 + 1 + 1, 1, none⟩ = some (.int .i64 0) := hr.outer.cell 1
    have o0 : w2.cell? ⟨w.heap.size + 1 + 1 + 1 + 1 + 1 + 1 + 1 + 1 + 1, 0, none⟩ = some (.bool false) := hr.out.cell 0
    have a0 : w2.cell? ⟨w.heap.size, 0, none⟩ = some (.int .i64 a) := (hin.a.keeps hk (by simp [S12, S14])).cell 0
    have b0 : w2.cell? ⟨w.heap.size + 1, 0, none⟩ = some (.int .i64 b) := (hin.b.keeps hk (by simp [S12, S14])).cell 0
    have d0 : w2.cell? ⟨w.heap.size + 1 + 1, 0, none⟩ = some (.bool false) := (hin.odd.keeps hk (by simp [S12, S14])).cell 0
    have p0 : w2.cell? ⟨w.heap.size + 1 + 1 + 1, 0, none⟩ = some (.int .u8 (first % 3)) := (hin.p.keeps hk (by simp [S12, S14])).cell 0
    have q0 : w2.cell? ⟨w.heap.size + 1 + 1 + 1 + 1, 0, none⟩ = some (.int .u8 0) := (hin.q.keeps hk (by simp [S12, S14])).cell 0
    have hkw : Keeps Non w w2 := hkW.trans (hk.weak (T := fun i => w.heap.size ≤ i) (by intro i _ h; simp only [S12, S14] at h; omega)) (fun i hi hx => absurd hx (by omega))
    have HA := hide hkw
    clear HC HW hkw hkW hin hk hr
    go_wp2_with (go_at_call 18; refine (awake_any _).mono ?_; rintro e w' ⟨rfl, hk⟩)
    go_ret
    exact ⟨rfl, Keeps.then (by repeat (first | exact HA.out | apply Keeps.alloc)) (by assumption)⟩

set_option maxHeartbeats 1000000 in
theorem inner_rr (first second : Int) (a b : Int) (w : World) (h1 : 0 ≤ first) (h2 : first ≤ 255) (h3 : 0 ≤ second) (h4 : second ≤ 255) (hp0 : first % 3 = 0) (hq0 : second % 3 = 0) :
    Calls Try.prog 3 #[.int .u8 first, .int .u8 second, .int .i64 a, .int .i64 b, .bool false] w fun e w' => e = .returned (.bool true) ∧ Keeps Non w w' := by
  have hmf : ∀ (fn : Fn) (first cap : Array Value) (w : World), (Instr.makeFunc fn first cap).run Try.prog w = .ok (.func fn first cap) w := fun _ _ _ _ => rfl
  have t1 := te_nil
  have t2 := te_yes
  have t3 := neS
  have t4 := nil_ne
  have t5 := eq_nil
  obtain ⟨W, hW⟩ : ∃ W, ((((((((((w.alloc (Obj.cells #[Value.int IntKind.i64 a] 3)).alloc (Obj.cells #[Value.int IntKind.i64 b] 3)).alloc (Obj.cells #[Value.bool false] 4)).alloc
        (Obj.cells #[Value.int IntKind.u8 0] 5)).alloc (Obj.cells #[Value.int IntKind.u8 0] 5)).alloc (Obj.cells #[Value.int IntKind.u8 0, Value.int IntKind.i64 0] 23)).alloc
        (Obj.cells #[Value.bool false] 4)).alloc (Obj.cells #[Value.int IntKind.i64 0] 3)).alloc (Obj.cells #[Value.int IntKind.u8 0, Value.int IntKind.i64 0] 23)).alloc (Obj.cells #[Value.bool false] 4)) = W := ⟨_, rfl⟩
  obtain ⟨hkW, hin⟩ := inn_start w a b false 0 0
  rw [hW] at hkW hin
  have HC := o12_rr w.heap.size a b W hin
  unfold O12 cap12 at HC
  have HC := hide HC
  have HW := hide hW
  clear hW
  go_enter Try.func3, Try.ntmps3
  go_wp2_with fail
  all_goals
    rw [HW.out]
    refine HC.out.mono ?_
    rintro e w2 ⟨rfl, hk, hr⟩
    have la := hr.r.inner.lt
    have lo := hr.out.lt
    have s0 : w2.cell? ⟨w.heap.size + 1 + 1 + 1 + 1 + 1 + 1 + 1, 0, none⟩ = some (.int .i64 1111) := hr.r.steps.cell 0
    have i0 : w2.cell? ⟨w.heap.size + 1 + 1 + 1 + 1 + 1, 0, none⟩ = some (.int .u8 0) := hr.r.inner.cell 0
    have i1 : w2.cell? ⟨w.heap.size + 1 + 1 + 1 + 1 + 1, 1, none⟩ = some (.int .i64 0) := hr.r.inner.cell 1
    have n0 : w2.cell? ⟨w.heap.size + 1 + 1 + 1 + 1 + 1 + 1, 0, none⟩ = some (.bool false) := hr.r.is.cell 0
    have u0 : w2.cell? ⟨w.heap.size + 1 + 1 + 1 + 1 + 1 + 1 + 1 + 1, 0, none⟩ = some (.int .u8 0) := hr.outer.cell 0
    have u1 : w2.cell? ⟨w.heap.size + 1 + 1 + 1 + 1 + 1 + 1 + 1 + 1, 1, none⟩ = some (.int .i64 0) := hr.outer.cell 1
    have o0 : w2.cell? ⟨w.heap.size + 1 + 1 + 1 + 1 + 1 + 1 + 1 + 1 + 1, 0, none⟩ = some (.bool false) := hr.out.cell 0
    have a0 : w2.cell? ⟨w.heap.size, 0, none⟩ = some (.int .i64 a) := (hin.a.keeps hk (by simp [S12, S14])).cell 0
    have b0 : w2.cell? ⟨w.heap.size + 1, 0, none⟩ = some (.int .i64 b) := (hin.b.keeps hk (by simp [S12, S14])).cell 0
    have d0 : w2.cell? ⟨w.heap.size + 1 + 1, 0, none⟩ = some (.bool false) := (hin.odd.keeps hk (by simp [S12, S14])).cell 0
    have p0 : w2.cell? ⟨w.heap.size + 1 + 1 + 1, 0, none⟩ = some (.int .u8 0) := (hin.p.keeps hk (by simp [S12, S14])).cell 0
    have q0 : w2.cell? ⟨w.heap.size + 1 + 1 + 1 + 1, 0, none⟩ = some (.int .u8 0) := (hin.q.keeps hk (by simp [S12, S14])).cell 0
    have hkw : Keeps Non w w2 := hkW.trans (hk.weak (T := fun i => w.heap.size ≤ i) (by intro i _ h; simp only [S12, S14] at h; omega)) (fun i hi hx => absurd hx (by omega))
    have HA := hide hkw
    clear HC HW hkw hkW hin hk hr
    go_wp2_with (go_at_call 18; refine (awake_any _).mono ?_; rintro e w' ⟨rfl, hk⟩)
    go_ret
    exact ⟨rfl, Keeps.then (by repeat (first | exact HA.out | apply Keeps.alloc)) (by assumption)⟩

theorem law_inner (first second : Int) (a b : Int) (odd : Bool) (w : World) (h1 : 0 ≤ first) (h2 : first ≤ 255) (h3 : 0 ≤ second) (h4 : second ≤ 255) :
    Calls Try.prog 3 #[.int .u8 first, .int .u8 second, .int .i64 a, .int .i64 b, .bool odd] w fun e w' => e = .returned (.bool true) ∧ Keeps Non w w' := by
  cases odd
  · by_cases hp : 0 < first % 3
    · by_cases hq : 0 < second % 3
      · exact inner_ff first second a b w h1 h2 h3 h4 hp hq
      · exact inner_fr first second a b w h1 h2 h3 h4 hp (by omega)
    · by_cases hq : 0 < second % 3
      · exact inner_rf first second a b w h1 h2 h3 h4 (by omega) hq
      · exact inner_rr first second a b w h1 h2 h3 h4 (by omega) (by omega)
  · exact inner_odd first second a b w h1 h2 h3 h4
end Go.Proofs.Ytfjofiofgjlgiaa
