/-
  The walk over FaultTry: it returns true, and turns nothing that was there. No condition.
-/
import Derived.Test.YtfjofiofgjlgiaaT
import Derived.Test.YtfjofiofgjlgiaaS
namespace Go.Proofs.Ytfjofiofgjlgiaa
open Go.RowKit
theorem Keeps.afterNon {a b c : World} (k : Keeps Non b c) (h : Keeps Non a b) : Keeps Non a c := h.then k
theorem eqS (p0 p1 : Int) (w : World) : (binOp .eql 23 (.agg #[.int .u8 p0, .int .i64 p1]) (.agg #[.int .u8 p0, .int .i64 p1])).run Try.prog w = .ok (.bool true) w := by
  have u3 := Try.underlying3
  have u5 := Try.underlying5
  have hS : Try.prog.underlying 23 = some (.struct (Try.prog.fieldsOf 23)) := by kernel_rfl
  have hp : Try.prog.stoodInHeld 23 = false := by kernel_rfl
  rw [run_eql_struct, show (10000 : Nat) = 9999 + 1 from rfl, run_equalIn_agg w 9999 23 _ _ hS hp]
  simp only [Program.fieldsOf, Try.underlying23]
  go_simp
theorem tr0_start (w : World) (s : ByteArray) (m p k : Int) :
    Keeps Non w (((((w.alloc (Obj.cells #[Value.string s] 9)).alloc (Obj.cells #[Value.int IntKind.i64 m] 3)).alloc (Obj.cells #[Value.int IntKind.u8 p] 5)).alloc (Obj.cells #[Value.int IntKind.u8 k] 5)).alloc (Obj.cells #[Value.func (Fn.func 19) #[] #[.pointer (some ⟨w.heap.size + 1 + 1, 0, none⟩), .pointer (some ⟨w.heap.size + 1, 0, none⟩), .pointer (some ⟨w.heap.size, 0, none⟩)]] 35)) ∧
    Tr0 (((((w.alloc (Obj.cells #[Value.string s] 9)).alloc (Obj.cells #[Value.int IntKind.i64 m] 3)).alloc (Obj.cells #[Value.int IntKind.u8 p] 5)).alloc (Obj.cells #[Value.int IntKind.u8 k] 5)).alloc (Obj.cells #[Value.func (Fn.func 19) #[] #[.pointer (some ⟨w.heap.size + 1 + 1, 0, none⟩), .pointer (some ⟨w.heap.size + 1, 0, none⟩), .pointer (some ⟨w.heap.size, 0, none⟩)]] 35)) w.heap.size s m p k := by
  refine ⟨?_, ?_⟩
  · repeat (first | exact Keeps.refl _ _ | apply Keeps.alloc)
  · refine ⟨?_, ?_, ?_, ?_, ?_⟩
    · exact ((((Blk.newAt _ [Value.string s] 9 (by simp)).alloc _).alloc _).alloc _).alloc _
    · exact (((Blk.newAt _ [Value.int IntKind.i64 m] 3 (by simp)).alloc _).alloc _).alloc _
    · exact ((Blk.newAt _ [Value.int IntKind.u8 p] 5 (by simp)).alloc _).alloc _
    · exact (Blk.newAt _ [Value.int IntKind.u8 k] 5 (by simp)).alloc _
    · exact Blk.newAt _ [Value.func (Fn.func 19) #[] (cap19 w.heap.size)] 35 (by simp)
theorem tr1_start (w2 : World) (x0 x1 : Int) :
    Keeps Non w2 ((((w2.alloc (Obj.cells #[Value.int IntKind.u8 x0, Value.int IntKind.i64 x1] 23)).alloc (Obj.cells #[Value.string ⟨#[]⟩] 9)).alloc (Obj.cells #[Value.int IntKind.u8 0, Value.int IntKind.i64 0] 23)).alloc (Obj.cells #[Value.int IntKind.i64 0] 25)) ∧ Blk ((((w2.alloc (Obj.cells #[Value.int IntKind.u8 x0, Value.int IntKind.i64 x1] 23)).alloc (Obj.cells #[Value.string ⟨#[]⟩] 9)).alloc (Obj.cells #[Value.int IntKind.u8 0, Value.int IntKind.i64 0] 23)).alloc (Obj.cells #[Value.int IntKind.i64 0] 25)) w2.heap.size [.int .u8 x0, .int .i64 x1] 23 ∧
    Tr1 ((((w2.alloc (Obj.cells #[Value.int IntKind.u8 x0, Value.int IntKind.i64 x1] 23)).alloc (Obj.cells #[Value.string ⟨#[]⟩] 9)).alloc (Obj.cells #[Value.int IntKind.u8 0, Value.int IntKind.i64 0] 23)).alloc (Obj.cells #[Value.int IntKind.i64 0] 25)) (w2.heap.size + 1) ⟨#[]⟩ 0 0 := by
  refine ⟨?_, ?_, ?_, ?_, ?_⟩
  · repeat (first | exact Keeps.refl _ _ | apply Keeps.alloc)
  · exact (((Blk.newAt _ [Value.int IntKind.u8 x0, Value.int IntKind.i64 x1] 23 (by simp)).alloc _).alloc _).alloc _
  · exact ((Blk.newAt _ [Value.string ⟨#[]⟩] 9 (by simp)).alloc _).alloc _
  · exact (Blk.newAt _ [Value.int IntKind.u8 0, Value.int IntKind.i64 0] 23 (by simp)).alloc _
  · exact Blk.newAt _ [Value.int IntKind.i64 0] 25 (by simp)

set_option maxHeartbeats 2000000 in
theorem ftry_ret (s : ByteArray) (throws kind m : Int) (w : World) (h1 : 0 ≤ throws) (h2 : throws ≤ 255) (h3 : 0 ≤ kind) (h4 : kind ≤ 255) (hs : s.size ≤ 140737488351232) (hp0 : throws % 3 = 0) :
    Calls Try.prog 4 #[.string s, .int .u8 throws, .int .u8 kind, .int .i64 m] w fun e w' => e = .returned (.bool true) ∧ Keeps Non w w' := by
  have hmf : ∀ (fn : Fn) (first cap : Array Value) (w : World), (Instr.makeFunc fn first cap).run Try.prog w = .ok (.func fn first cap) w := fun _ _ _ _ => rfl
  have t3 := neS
  have t4 := eqS
  obtain ⟨W, hW⟩ : ∃ W, ((((w.alloc (Obj.cells #[Value.string s] 9)).alloc (Obj.cells #[Value.int IntKind.i64 m] 3)).alloc (Obj.cells #[Value.int IntKind.u8 0] 5)).alloc (Obj.cells #[Value.int IntKind.u8 (1 + kind % 2)] 5)).alloc (Obj.cells #[Value.func (Fn.func 19) #[] #[.pointer (some ⟨w.heap.size + 1 + 1, 0, none⟩), .pointer (some ⟨w.heap.size + 1, 0, none⟩), .pointer (some ⟨w.heap.size, 0, none⟩)]] 35) = W := ⟨_, rfl⟩
  obtain ⟨hkW, h0⟩ := tr0_start w s m 0 (1 + kind % 2)
  rw [hW] at hkW h0
  have HC := t19_ret w.heap.size s m (1 + kind % 2) W h0
  unfold cap19 at HC
  have HC := hide HC
  have HW := hide hW
  clear hW
  go_enter Try.func4, Try.ntmps4
  go_wp2_with fail
  all_goals
    rw [HW.out]
    refine HC.out.mono ?_
    rintro e w2 ⟨rfl, hk⟩
    have h0 := h0.non hk
    have hkw := hkW.then hk
    have s0 : w2.cell? ⟨w.heap.size, 0, none⟩ = some (.string s) := h0.s.cell 0
    have m0 : w2.cell? ⟨w.heap.size + 1, 0, none⟩ = some (.int .i64 m) := h0.m.cell 0
    have p0 : w2.cell? ⟨w.heap.size + 1 + 1, 0, none⟩ = some (.int .u8 0) := h0.p.cell 0
    have k0 : w2.cell? ⟨w.heap.size + 1 + 1 + 1, 0, none⟩ = some (.int .u8 (1 + kind % 2)) := h0.k.cell 0
    have ls := h0.s.lt
    have lm := h0.m.lt
    have lp := h0.p.lt
    have lk := h0.k.lt
    have lf := h0.f.lt
    obtain ⟨W2, hW2⟩ : ∃ W2, (((w2.alloc (Obj.cells #[Value.int IntKind.u8 0, Value.int IntKind.i64 0] 23)).alloc (Obj.cells #[Value.string ⟨#[]⟩] 9)).alloc (Obj.cells #[Value.int IntKind.u8 0, Value.int IntKind.i64 0] 23)).alloc (Obj.cells #[Value.int IntKind.i64 0] 25) = W2 := ⟨_, rfl⟩
    obtain ⟨hkW2, hx, h12⟩ := tr1_start w2 0 0
    rw [hW2] at hkW2 hx h12
    have h02 := h0.non hkW2
    have HC := c21_ret w.heap.size (w2.heap.size + 1) s m (1 + kind % 2) W2 h02 h12 (by simp [thereB]; omega)
    unfold cap21 at HC
    have HC := hide HC
    have HW := hide hW2
    have HKW := hide (And.intro (hkw.then hkW2) (And.intro h02 (And.intro h12 hx)))
    clear hW2 hkw hkW2 hkW hk h0 h02 h12 hx
    have lA := ls
    go_wp2_with fail
    rw [HW.out]
    refine HC.out.mono ?_
    rintro e w3 ⟨rfl, hk, h13⟩
    clear HC
    obtain ⟨hkw, h02, h12, hx⟩ := HKW.out
    have h03 := h02.keeps hk (by intro i hi; simp only [S21]; omega)
    have hx3 := hx.keeps hk (by simp only [S21]; omega)
    have s1 : w3.cell? ⟨w.heap.size, 0, none⟩ = some (.string s) := h03.s.cell 0
    have m1 : w3.cell? ⟨w.heap.size + 1, 0, none⟩ = some (.int .i64 m) := h03.m.cell 0
    have p1 : w3.cell? ⟨w.heap.size + 1 + 1, 0, none⟩ = some (.int .u8 0) := h03.p.cell 0
    have k1 : w3.cell? ⟨w.heap.size + 1 + 1 + 1, 0, none⟩ = some (.int .u8 (1 + kind % 2)) := h03.k.cell 0
    have x0 : w3.cell? ⟨w2.heap.size, 0, none⟩ = some (.int .u8 0) := hx3.cell 0
    have x1 : w3.cell? ⟨w2.heap.size, 1, none⟩ = some (.int .i64 0) := hx3.cell 1
    have g0 : w3.cell? ⟨w2.heap.size + 1, 0, none⟩ = some (.string s) := h13.got.cell 0
    have z0 : w3.cell? ⟨w2.heap.size + 1 + 1, 0, none⟩ = some (.int .u8 0) := h13.seen.cell 0
    have z1 : w3.cell? ⟨w2.heap.size + 1 + 1, 1, none⟩ = some (.int .i64 0) := h13.seen.cell 1
    have e0 : w3.cell? ⟨w2.heap.size + 1 + 1 + 1, 0, none⟩ = some (.int .i64 0) := h13.h.cell 0
    have ls3 := h03.s.lt
    have lm3 := h03.m.lt
    have lp3 := h03.p.lt
    have lk3 := h03.k.lt
    have lx3 := hx3.lt
    have lg3 := h13.got.lt
    have lz3 := h13.seen.lt
    have le3 := h13.h.lt
    have HA := hide (show Keeps Non w w3 from hkw.trans (hk.weak (T := fun i => w.heap.size ≤ i) (by intro i _ h; simp only [S21] at h; omega)) (fun i hi hx => absurd hx (by omega)))
    clear HW HKW hkw h02 h12 hx hk h13 h03 hx3 s0 m0 p0 k0
    skip
    go_wp2_with (go_at_call 18; refine (awake_any _).mono ?_; rintro e w' ⟨rfl, hk⟩)
    go_ret
    exact ⟨rfl, Keeps.afterNon (by assumption) (by repeat (first | exact HA.out | apply Keeps.alloc))⟩

set_option maxHeartbeats 2000000 in
theorem ftry_other (s : ByteArray) (throws kind m : Int) (w : World) (h1 : 0 ≤ throws) (h2 : throws ≤ 255) (h3 : 0 ≤ kind) (h4 : kind ≤ 255) (hs : s.size ≤ 140737488351232) (hp0 : 0 < throws % 3) (hne : throws % 3 ≠ 1 + kind % 2) :
    Calls Try.prog 4 #[.string s, .int .u8 throws, .int .u8 kind, .int .i64 m] w fun e w' => e = .returned (.bool true) ∧ Keeps Non w w' := by
  have hmf : ∀ (fn : Fn) (first cap : Array Value) (w : World), (Instr.makeFunc fn first cap).run Try.prog w = .ok (.func fn first cap) w := fun _ _ _ _ => rfl
  have t3 := neS
  have t4 := eqS
  have hn2 : ¬ throws % 3 = 1 + kind % 2 := hne
  have hn3 : (throws % 3 != 1 + kind % 2) = true := by simpa using hne
  obtain ⟨W, hW⟩ : ∃ W, ((((w.alloc (Obj.cells #[Value.string s] 9)).alloc (Obj.cells #[Value.int IntKind.i64 m] 3)).alloc (Obj.cells #[Value.int IntKind.u8 (throws % 3)] 5)).alloc (Obj.cells #[Value.int IntKind.u8 (1 + kind % 2)] 5)).alloc (Obj.cells #[Value.func (Fn.func 19) #[] #[.pointer (some ⟨w.heap.size + 1 + 1, 0, none⟩), .pointer (some ⟨w.heap.size + 1, 0, none⟩), .pointer (some ⟨w.heap.size, 0, none⟩)]] 35) = W := ⟨_, rfl⟩
  obtain ⟨hkW, h0⟩ := tr0_start w s m (throws % 3) (1 + kind % 2)
  rw [hW] at hkW h0
  have HC := t19_fault w.heap.size s m (throws % 3) (1 + kind % 2) W h0 (by simp [thereB]; omega) hp0
  unfold cap19 at HC
  have HC := hide HC
  have HW := hide hW
  clear hW
  go_enter Try.func4, Try.ntmps4
  go_wp2_with fail
  all_goals
    rw [HW.out]
    refine HC.out.mono ?_
    rintro e w2 ⟨rfl, hk⟩
    have h0 := h0.non hk
    have hkw := hkW.then hk
    have s0 : w2.cell? ⟨w.heap.size, 0, none⟩ = some (.string s) := h0.s.cell 0
    have m0 : w2.cell? ⟨w.heap.size + 1, 0, none⟩ = some (.int .i64 m) := h0.m.cell 0
    have p0 : w2.cell? ⟨w.heap.size + 1 + 1, 0, none⟩ = some (.int .u8 (throws % 3)) := h0.p.cell 0
    have k0 : w2.cell? ⟨w.heap.size + 1 + 1 + 1, 0, none⟩ = some (.int .u8 (1 + kind % 2)) := h0.k.cell 0
    have ls := h0.s.lt
    have lm := h0.m.lt
    have lp := h0.p.lt
    have lk := h0.k.lt
    have lf := h0.f.lt
    obtain ⟨W2, hW2⟩ : ∃ W2, (((w2.alloc (Obj.cells #[Value.int IntKind.u8 (throws % 3), Value.int IntKind.i64 m] 23)).alloc (Obj.cells #[Value.string ⟨#[]⟩] 9)).alloc (Obj.cells #[Value.int IntKind.u8 0, Value.int IntKind.i64 0] 23)).alloc (Obj.cells #[Value.int IntKind.i64 0] 25) = W2 := ⟨_, rfl⟩
    obtain ⟨hkW2, hx, h12⟩ := tr1_start w2 (throws % 3) m
    rw [hW2] at hkW2 hx h12
    have h02 := h0.non hkW2
    have HC := c21_other w.heap.size (w2.heap.size + 1) s m (throws % 3) (1 + kind % 2) W2 h02 h12 (by simp [thereB]; omega) (by simp [thereB]; omega) hp0 (by simpa using hne)
    unfold cap21 at HC
    have HC := hide HC
    have HW := hide hW2
    have HKW := hide (And.intro (hkw.then hkW2) (And.intro h02 (And.intro h12 hx)))
    clear hW2 hkw hkW2 hkW hk h0 h02 h12 hx
    have lA := ls
    go_wp2_with fail
    rw [HW.out]
    refine HC.out.mono ?_
    rintro e w3 ⟨rfl, hk, h13⟩
    clear HC
    obtain ⟨hkw, h02, h12, hx⟩ := HKW.out
    have h03 := h02.keeps hk (by intro i hi; simp only [S21]; omega)
    have hx3 := hx.keeps hk (by simp only [S21]; omega)
    have s1 : w3.cell? ⟨w.heap.size, 0, none⟩ = some (.string s) := h03.s.cell 0
    have m1 : w3.cell? ⟨w.heap.size + 1, 0, none⟩ = some (.int .i64 m) := h03.m.cell 0
    have p1 : w3.cell? ⟨w.heap.size + 1 + 1, 0, none⟩ = some (.int .u8 (throws % 3)) := h03.p.cell 0
    have k1 : w3.cell? ⟨w.heap.size + 1 + 1 + 1, 0, none⟩ = some (.int .u8 (1 + kind % 2)) := h03.k.cell 0
    have x0 : w3.cell? ⟨w2.heap.size, 0, none⟩ = some (.int .u8 (throws % 3)) := hx3.cell 0
    have x1 : w3.cell? ⟨w2.heap.size, 1, none⟩ = some (.int .i64 m) := hx3.cell 1
    have g0 : w3.cell? ⟨w2.heap.size + 1, 0, none⟩ = some (.string ⟨#[]⟩) := h13.got.cell 0
    have z0 : w3.cell? ⟨w2.heap.size + 1 + 1, 0, none⟩ = some (.int .u8 0) := h13.seen.cell 0
    have z1 : w3.cell? ⟨w2.heap.size + 1 + 1, 1, none⟩ = some (.int .i64 0) := h13.seen.cell 1
    have e0 : w3.cell? ⟨w2.heap.size + 1 + 1 + 1, 0, none⟩ = some (.int .i64 0) := h13.h.cell 0
    have ls3 := h03.s.lt
    have lm3 := h03.m.lt
    have lp3 := h03.p.lt
    have lk3 := h03.k.lt
    have lx3 := hx3.lt
    have lg3 := h13.got.lt
    have lz3 := h13.seen.lt
    have le3 := h13.h.lt
    have HA := hide (show Keeps Non w w3 from hkw.trans (hk.weak (T := fun i => w.heap.size ≤ i) (by intro i _ h; simp only [S21] at h; omega)) (fun i hi hx => absurd hx (by omega)))
    clear HW HKW hkw h02 h12 hx hk h13 h03 hx3 s0 m0 p0 k0
    skip
    go_wp2_with (go_at_call 18; refine (awake_any _).mono ?_; rintro e w' ⟨rfl, hk⟩)
    go_ret
    exact ⟨rfl, Keeps.afterNon (by assumption) (by repeat (first | exact HA.out | apply Keeps.alloc))⟩

set_option maxHeartbeats 2000000 in
theorem ftry_same (s : ByteArray) (throws kind m : Int) (w : World) (h1 : 0 ≤ throws) (h2 : throws ≤ 255) (h3 : 0 ≤ kind) (h4 : kind ≤ 255) (hs : s.size ≤ 140737488351232) (hp0 : 0 < throws % 3) (hne : 1 + kind % 2 = throws % 3) :
    Calls Try.prog 4 #[.string s, .int .u8 throws, .int .u8 kind, .int .i64 m] w fun e w' => e = .returned (.bool true) ∧ Keeps Non w w' := by
  have hmf : ∀ (fn : Fn) (first cap : Array Value) (w : World), (Instr.makeFunc fn first cap).run Try.prog w = .ok (.func fn first cap) w := fun _ _ _ _ => rfl
  have t3 := neS
  have t4 := eqS
  obtain ⟨W, hW⟩ : ∃ W, ((((w.alloc (Obj.cells #[Value.string s] 9)).alloc (Obj.cells #[Value.int IntKind.i64 m] 3)).alloc (Obj.cells #[Value.int IntKind.u8 (throws % 3)] 5)).alloc (Obj.cells #[Value.int IntKind.u8 (throws % 3)] 5)).alloc (Obj.cells #[Value.func (Fn.func 19) #[] #[.pointer (some ⟨w.heap.size + 1 + 1, 0, none⟩), .pointer (some ⟨w.heap.size + 1, 0, none⟩), .pointer (some ⟨w.heap.size, 0, none⟩)]] 35) = W := ⟨_, rfl⟩
  obtain ⟨hkW, h0⟩ := tr0_start w s m (throws % 3) (throws % 3)
  rw [hW] at hkW h0
  have HC := t19_fault w.heap.size s m (throws % 3) (throws % 3) W h0 (by simp [thereB]; omega) hp0
  unfold cap19 at HC
  have HC := hide HC
  have HW := hide hW
  clear hW
  go_enter Try.func4, Try.ntmps4
  go_wp2_with fail
  all_goals
    rw [HW.out]
    refine HC.out.mono ?_
    rintro e w2 ⟨rfl, hk⟩
    have h0 := h0.non hk
    have hkw := hkW.then hk
    have s0 : w2.cell? ⟨w.heap.size, 0, none⟩ = some (.string s) := h0.s.cell 0
    have m0 : w2.cell? ⟨w.heap.size + 1, 0, none⟩ = some (.int .i64 m) := h0.m.cell 0
    have p0 : w2.cell? ⟨w.heap.size + 1 + 1, 0, none⟩ = some (.int .u8 (throws % 3)) := h0.p.cell 0
    have k0 : w2.cell? ⟨w.heap.size + 1 + 1 + 1, 0, none⟩ = some (.int .u8 (throws % 3)) := h0.k.cell 0
    have ls := h0.s.lt
    have lm := h0.m.lt
    have lp := h0.p.lt
    have lk := h0.k.lt
    have lf := h0.f.lt
    obtain ⟨W2, hW2⟩ : ∃ W2, (((w2.alloc (Obj.cells #[Value.int IntKind.u8 (throws % 3), Value.int IntKind.i64 m] 23)).alloc (Obj.cells #[Value.string ⟨#[]⟩] 9)).alloc (Obj.cells #[Value.int IntKind.u8 0, Value.int IntKind.i64 0] 23)).alloc (Obj.cells #[Value.int IntKind.i64 0] 25) = W2 := ⟨_, rfl⟩
    obtain ⟨hkW2, hx, h12⟩ := tr1_start w2 (throws % 3) m
    rw [hW2] at hkW2 hx h12
    have h02 := h0.non hkW2
    have HC := c21_same w.heap.size (w2.heap.size + 1) s m (throws % 3) W2 h02 h12 (by have := hkw.size; omega) (by simp [thereB]; omega) hp0 hs
    unfold cap21 at HC
    have HC := hide HC
    have HW := hide hW2
    have HKW := hide (And.intro (hkw.then hkW2) (And.intro h02 (And.intro h12 hx)))
    clear hW2 hkw hkW2 hkW hk h0 h02 h12 hx
    have lA := ls
    go_wp2_with fail
    rw [HW.out]
    refine HC.out.mono ?_
    rintro e w3 ⟨rfl, hk, h13⟩
    clear HC
    obtain ⟨hkw, h02, h12, hx⟩ := HKW.out
    have h03 := h02.keeps hk (by intro i hi; simp only [S21]; omega)
    have hx3 := hx.keeps hk (by simp only [S21]; omega)
    have s1 : w3.cell? ⟨w.heap.size, 0, none⟩ = some (.string s) := h03.s.cell 0
    have m1 : w3.cell? ⟨w.heap.size + 1, 0, none⟩ = some (.int .i64 m) := h03.m.cell 0
    have p1 : w3.cell? ⟨w.heap.size + 1 + 1, 0, none⟩ = some (.int .u8 (throws % 3)) := h03.p.cell 0
    have k1 : w3.cell? ⟨w.heap.size + 1 + 1 + 1, 0, none⟩ = some (.int .u8 (throws % 3)) := h03.k.cell 0
    have x0 : w3.cell? ⟨w2.heap.size, 0, none⟩ = some (.int .u8 (throws % 3)) := hx3.cell 0
    have x1 : w3.cell? ⟨w2.heap.size, 1, none⟩ = some (.int .i64 m) := hx3.cell 1
    have g0 : w3.cell? ⟨w2.heap.size + 1, 0, none⟩ = some (.string (bang s)) := h13.got.cell 0
    have z0 : w3.cell? ⟨w2.heap.size + 1 + 1, 0, none⟩ = some (.int .u8 (throws % 3)) := h13.seen.cell 0
    have z1 : w3.cell? ⟨w2.heap.size + 1 + 1, 1, none⟩ = some (.int .i64 m) := h13.seen.cell 1
    have e0 : w3.cell? ⟨w2.heap.size + 1 + 1 + 1, 0, none⟩ = some (.int .i64 0) := h13.h.cell 0
    have ls3 := h03.s.lt
    have lm3 := h03.m.lt
    have lp3 := h03.p.lt
    have lk3 := h03.k.lt
    have lx3 := hx3.lt
    have lg3 := h13.got.lt
    have lz3 := h13.seen.lt
    have le3 := h13.h.lt
    have HA := hide (show Keeps Non w w3 from hkw.trans (hk.weak (T := fun i => w.heap.size ≤ i) (by intro i _ h; simp only [S21] at h; omega)) (fun i hi hx => absurd hx (by omega)))
    clear HW HKW hkw h02 h12 hx hk h13 h03 hx3 s0 m0 p0 k0
    unfold bang at g0
    go_wp2_with (go_at_call 18; refine (awake_any _).mono ?_; rintro e w' ⟨rfl, hk⟩)
    go_ret
    exact ⟨rfl, Keeps.afterNon (by assumption) (by repeat (first | exact HA.out | apply Keeps.alloc))⟩

theorem law_try (s : ByteArray) (throws kind m : Int) (w : World) (h1 : 0 ≤ throws) (h2 : throws ≤ 255) (h3 : 0 ≤ kind) (h4 : kind ≤ 255) (hs : s.size ≤ 140737488351232) :
    Calls Try.prog 4 #[.string s, .int .u8 throws, .int .u8 kind, .int .i64 m] w fun e w' => e = .returned (.bool true) ∧ Keeps Non w w' := by
  by_cases hp : 0 < throws % 3
  · by_cases hne : throws % 3 = 1 + kind % 2
    · exact ftry_same s throws kind m w h1 h2 h3 h4 hs hp hne.symm
    · exact ftry_other s throws kind m w h1 h2 h3 h4 hs hp hne
  · exact ftry_ret s throws kind m w h1 h2 h3 h4 hs (by omega)
end Go.Proofs.Ytfjofiofgjlgiaa
