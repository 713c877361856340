/-
  Walks over layer 35: caught$1, caught, Catch, over whatever function value. No condition.
-/
import Derived.Test.YtfjofiofgjlgiaaB
namespace Go.Proofs.Ytfjofiofgjlgiaa
open Go.RowKit

theorem ta_yes (v : Value) (w : World) : (Instr.typeAssert (.iface 23 v) 20 23 true).run Try.prog w = .ok (.tuple #[v, .bool true]) w := by kernel_rfl
theorem ta_no (v : Value) (w : World) : (Instr.typeAssert (.iface 8 v) 20 23 true).run Try.prog w = .ok (.tuple #[.agg #[.int .u8 0, .int .i64 0], .bool false]) w := by kernel_rfl
theorem te_nil (w : World) : (Instr.typeAssert .nilIface 20 31 true).run Try.prog w = .ok (.tuple #[.nilIface, .bool false]) w := by kernel_rfl
theorem te_yes (v : Value) (w : World) : (Instr.typeAssert (.iface 8 v) 20 31 true).run Try.prog w = .ok (.tuple #[.iface 8 v, .bool true]) w := by kernel_rfl
theorem eq_nil (t : Nat) (v : Value) (w : World) : (binOp .eql 20 (.iface t v) .nilIface).run Try.prog w = .ok (.bool false) w := by kernel_rfl

theorem caught1_idle (a b : Nat) (w : World) :
    CallsD Try.prog 60 #[.pointer (some ⟨a, 0, none⟩), .pointer (some ⟨b, 0, none⟩)] .returning w fun e u' w' => e = .returned (.tuple #[]) ∧ u' = .returning ∧ w' = w := by
  refine callsD_of_wpS Try.func60 rfl fun c₀ cs hu => ?_
  apply wpS_seq
  apply wpS_region
  simp [wpOpsS, go_sem, recoverD, hu, Try.ntmps60, Exit.thenS, Array.replicate]
  refine wpS_of_wp ?_
  have hq : c₀ = { c₀ with mode := .returning } := by cases c₀; simp_all
  go_wp2
  exact ⟨rfl, _, by rw [← hq], _, by simp [results, Try.results60], rfl, rfl, rfl⟩

theorem caught1_fault (a b : Nat) (f0 f1 b0 : Value) (k m : Int) (older : List PanicEntry) (w : World) (hk : thereB k = true) (hab : a ≠ b) (ha : Blk w a [f0, f1] 23) (hb : Blk w b [b0] 4) :
    CallsD Try.prog 60 #[.pointer (some ⟨a, 0, none⟩), .pointer (some ⟨b, 0, none⟩)] (.panicking ({ v := .iface 23 (.agg #[.int .u8 k, .int .i64 m]), recovered := false } :: older)) w fun e u' w' =>
      e = .returned (.tuple #[]) ∧ u' = .panicking ({ v := .iface 23 (.agg #[.int .u8 k, .int .i64 m]), recovered := true } :: older) ∧ Blk w' a [.int .u8 k, .int .i64 m] 23 ∧ Blk w' b [.bool true] 4 ∧
        Keeps (fun i => i = a ∨ i = b) w w' := by
  refine callsD_of_wpS Try.func60 rfl fun c₀ cs hu => ?_
  apply wpS_seq
  apply wpS_region
  simp [wpOpsS, go_sem, recoverD, hu, Try.ntmps60, Exit.thenS, Array.replicate]
  refine wpS_of_wp ?_
  clear hu
  have t1 := ta_yes
  have t2 := ta_no
  have la := ha.lt
  have lb := hb.lt
  have a0 : w.cell? ⟨a, 0, none⟩ = some f0 := ha.cell 0
  have a1 : w.cell? ⟨a, 1, none⟩ = some f1 := ha.cell 1
  have b0' : w.cell? ⟨b, 0, none⟩ = some b0 := hb.cell 0
  have fa0 := ha.free 0 none
  have fa1 := ha.free 1 none
  have fb0 := hb.free 0 none
  go_wp2_with (go_at_call 43; refine (there_any _ _).mono ?_; rintro e w' ⟨rfl, rfl⟩)
  exact ⟨rfl, _, rfl, _, by simp [results, Try.results60], rfl, rfl, (((ha.store 0 _).store 1 _).other (by simp; exact hab) _).alloc _, (((hb.other (by simp; exact fun e => hab e.symm) _).other (by simp; exact fun e => hab e.symm) _).store 0 _).alloc _,
    ((((Keeps.refl _ w).set (.inl (.inl rfl)) _).set (.inl (.inl rfl)) _).set (.inl (.inr rfl)) _).alloc _⟩

theorem caught1_on (a b : Nat) (v : Value) (older : List PanicEntry) (w : World) :
    CallsD Try.prog 60 #[.pointer (some ⟨a, 0, none⟩), .pointer (some ⟨b, 0, none⟩)] (.panicking ({ v := .iface 8 v, recovered := false } :: older)) w fun e u' w' =>
      e = .panicked [{ v := .iface 8 v, recovered := false }] ∧ u' = .panicking ({ v := .iface 8 v, recovered := true } :: older) ∧ Keeps Non w w' := by
  refine callsD_of_wpS Try.func60 rfl fun c₀ cs hu => ?_
  apply wpS_seq
  apply wpS_region
  simp [wpOpsS, go_sem, recoverD, hu, Try.ntmps60, Exit.thenS, Array.replicate]
  refine wpS_of_wp ?_
  clear hu
  have t1 := ta_yes
  have t2 := ta_no
  go_wp2_with (go_at_call 43; refine (there_any _ _).mono ?_; rintro e w' ⟨rfl, rfl⟩)
  exact ⟨rfl, _, rfl, rfl, rfl, (Keeps.refl _ w).alloc _⟩


/-! ### caught -/
def flt (k m : Int) : Value := .agg #[.int .u8 k, .int .i64 m]

theorem caught_ret (g : Nat) (cap : Array Value) (w : World) (S : Nat → Prop) (R : World → Prop) (eg : Enters g) (hS : ∀ k, S k → k < w.heap.size)
    (h : ∀ W0, Keeps Non w W0 → Calls Try.prog g cap W0 fun e W1 => (∃ v, e = .returned v) ∧ Keeps S W0 W1 ∧ R W1) :
    Calls Try.prog 42 #[.func (.func g) #[] cap] w fun e w' => e = .returned (.tuple #[flt 0 0, .bool false]) ∧ Keeps S w w' ∧ ∃ W1, R W1 ∧ Below w.heap.size W1 w' := by
  unfold Enters at eg
  have hmf : ∀ (fn : Fn) (first cap : Array Value) (w : World), (Instr.makeFunc fn first cap).run Try.prog w = .ok (.func fn first cap) w := fun _ _ _ _ => rfl
  go_enter_defers Try.func42, Try.ntmps42
  go_wp2_with fail
  refine (h _ (((Keeps.refl _ _).alloc _).alloc _)).mono ?_
  rintro e W1 ⟨⟨v, rfl⟩, hk, hR⟩
  have ha : Blk W1 w.heap.size [.int .u8 0, .int .i64 0] 23 := ((Blk.new w [.int .u8 0, .int .i64 0] 23).alloc _).keeps hk (fun x => Nat.lt_irrefl _ (hS _ x))
  have hb : Blk W1 (w.heap.size + 1) [.bool false] 4 := by
    have := (Blk.new (w.alloc (.cells #[.int .u8 0, .int .i64 0] 23)) [.bool false] 4).keeps hk (fun x => by have := hS _ x; simp at this; omega)
    simpa using this
  go_wp2
  refine leaves_cons (f := 60) (args := #[.pointer (some ⟨w.heap.size, 0, none⟩), .pointer (some ⟨w.heap.size + 1, 0, none⟩)]) (by simp) (by simp [go_sem]) ?_
  refine (caught1_idle _ _ _).mono ?_
  rintro e u' w'' ⟨rfl, rfl, rfl⟩
  simp only [Leaves, settle, results, Try.results42]
  have a0 : w''.cell? ⟨w.heap.size, 0, none⟩ = _ := ha.cell 0
  have a1 : w''.cell? ⟨w.heap.size, 1, none⟩ = _ := ha.cell 1
  have b0 : w''.cell? ⟨w.heap.size + 1, 0, none⟩ = _ := hb.cell 0
  simp only [List.getElem?_cons_zero, List.getElem?_cons_succ] at a0 a1 b0
  refine ⟨_, ?_, rfl, (((Keeps.refl S w).alloc _).alloc _).then hk, w'', hR, Below.refl _ _⟩
  simp [go_sem, a0, a1, b0, flt]

theorem caught_fault (g : Nat) (cap : Array Value) (w : World) (S : Nat → Prop) (k m : Int) (R : World → Prop) (hth : thereB k = true) (eg : Enters g) (hS : ∀ k, S k → k < w.heap.size)
    (h : ∀ W0, Keeps Non w W0 → Calls Try.prog g cap W0 fun e W1 => (∃ older, e = .panicked ({ v := .iface 23 (flt k m), recovered := false } :: older) ∧ NoExit older) ∧ Keeps S W0 W1 ∧ R W1) :
    Calls Try.prog 42 #[.func (.func g) #[] cap] w fun e w' => e = .returned (.tuple #[flt k m, .bool true]) ∧ Keeps S w w' ∧ ∃ W1, R W1 ∧ Below w.heap.size W1 w' := by
  unfold Enters at eg
  unfold flt at *
  have hmf : ∀ (fn : Fn) (first cap : Array Value) (w : World), (Instr.makeFunc fn first cap).run Try.prog w = .ok (.func fn first cap) w := fun _ _ _ _ => rfl
  go_enter_defers Try.func42, Try.ntmps42
  go_wp2_with fail
  refine (h _ (((Keeps.refl _ _).alloc _).alloc _)).mono ?_
  rintro e W1 ⟨⟨older, rfl, hno⟩, hk, hR⟩
  have ha : Blk W1 w.heap.size [.int .u8 0, .int .i64 0] 23 := ((Blk.new w [.int .u8 0, .int .i64 0] 23).alloc _).keeps hk (fun x => Nat.lt_irrefl _ (hS _ x))
  have hb : Blk W1 (w.heap.size + 1) [.bool false] 4 := by
    have := (Blk.new (w.alloc (.cells #[.int .u8 0, .int .i64 0] 23)) [.bool false] 4).keeps hk (fun x => by have := hS _ x; simp at this; omega)
    simpa using this
  go_wp2
  refine leaves_cons (f := 60) (args := #[.pointer (some ⟨w.heap.size, 0, none⟩), .pointer (some ⟨w.heap.size + 1, 0, none⟩)]) (by simp) (by simp [go_sem]) ?_
  refine (caught1_fault _ _ _ _ _ k m older _ hth (by omega) ha hb).mono ?_
  rintro e u' w'' ⟨rfl, rfl, ha2, hb2, hk2⟩
  unfold NoExit at hno
  simp only [Leaves, settle, results, Try.results42, hno]
  have a0 : w''.cell? ⟨w.heap.size, 0, none⟩ = _ := ha2.cell 0
  have a1 : w''.cell? ⟨w.heap.size, 1, none⟩ = _ := ha2.cell 1
  have b0 : w''.cell? ⟨w.heap.size + 1, 0, none⟩ = _ := hb2.cell 0
  simp only [List.getElem?_cons_zero, List.getElem?_cons_succ] at a0 a1 b0
  refine ⟨_, ?_, rfl, ((((Keeps.refl S w).alloc _).alloc _).then hk).trans hk2 (by omega), W1, hR, hk2.belowOf (by have := hk.size; simp at this; omega) (by omega)⟩
  simp [go_sem, a0, a1, b0]

theorem caught_on (g : Nat) (cap : Array Value) (w : World) (S : Nat → Prop) (R : World → Prop) (eg : Enters g)
    (h : ∀ W0, Keeps Non w W0 → Calls Try.prog g cap W0 fun e W1 => (∃ v older, e = .panicked ({ v := .iface 8 v, recovered := false } :: older) ∧ NoExit older) ∧ Keeps S W0 W1 ∧ R W1) :
    Calls Try.prog 42 #[.func (.func g) #[] cap] w fun e w' => (∃ v older, e = .panicked ({ v := .iface 8 v, recovered := false } :: older) ∧ NoExit older) ∧ Keeps S w w' ∧ ∃ W1, R W1 ∧ Below w.heap.size W1 w' := by
  unfold Enters at eg
  have hmf : ∀ (fn : Fn) (first cap : Array Value) (w : World), (Instr.makeFunc fn first cap).run Try.prog w = .ok (.func fn first cap) w := fun _ _ _ _ => rfl
  go_enter_defers Try.func42, Try.ntmps42
  go_wp2_with fail
  refine (h _ (((Keeps.refl _ _).alloc _).alloc _)).mono ?_
  rintro e W1 ⟨⟨v, older, rfl, hno⟩, hk, hR⟩
  go_wp2
  refine leaves_cons (f := 60) (args := #[.pointer (some ⟨w.heap.size, 0, none⟩), .pointer (some ⟨w.heap.size + 1, 0, none⟩)]) (by simp) (by simp [go_sem]) ?_
  refine (caught1_on _ _ v older _).mono ?_
  rintro e u' w'' ⟨rfl, rfl, hk2⟩
  simp only [Leaves, raised]
  unfold NoExit at *
  refine ⟨⟨v, _, rfl, ?_⟩, ((((Keeps.refl S w).alloc _).alloc _).then hk).thenNon hk2, W1, hR, hk2.belowOf (by have := hk.size; simp at this; omega) (fun _ _ x => x)⟩
  simp [hno]

/-! ### Catch -/
theorem catch_ret (g : Nat) (cap : Array Value) (w : World) (S : Nat → Prop) (R : World → Prop) (eg : Enters g) (hS : ∀ k, S k → k < w.heap.size)
    (h : ∀ W0, Keeps Non w W0 → Calls Try.prog g cap W0 fun e W1 => (∃ v, e = .returned v) ∧ Keeps S W0 W1 ∧ R W1) :
    Calls Try.prog 13 #[.func (.func g) #[] cap] w fun e w' => e = .returned (.tuple #[flt 0 0, .bool false, .int .i64 0]) ∧ Keeps S w w' ∧ ∃ W1, R W1 ∧ Below w.heap.size W1 w' := by
  have hf : ∀ w, (binOp .eql 1 (.func (.func g) #[] cap) .nilFunc).run Try.prog w = .ok (.bool false) w := fun _ => by kernel_rfl
  go_enter Try.func13, Try.ntmps13
  go_wp2_with fail
  refine (caught_ret g cap _ S R eg (fun k hk => by have := hS k hk; simp; omega) (fun W0 hW => h W0 (((Keeps.refl _ _).alloc _).then hW))).mono ?_
  rintro e w1 ⟨rfl, hk, W1, hR, hb⟩
  have ha : Blk w1 w.heap.size [.int .u8 0, .int .i64 0] 23 := (Blk.new w [.int .u8 0, .int .i64 0] 23).keeps hk (fun x => Nat.lt_irrefl _ (hS _ x))
  have la := ha.lt
  have a0 : w1.cell? ⟨w.heap.size, 0, none⟩ = some (.int .u8 0) := ha.cell 0
  have a1 : w1.cell? ⟨w.heap.size, 1, none⟩ = some (.int .i64 0) := ha.cell 1
  have fa0 := ha.free 0 none
  have fa1 := ha.free 1 none
  unfold flt at *
  go_wp2
  refine bodyPost_ret (v := .tuple #[.agg #[.int .u8 0, .int .i64 0], .bool false, .int .i64 0]) (by simp [results, Try.results13, go_sem, la, a0, a1]) rfl ⟨rfl, ?_, W1, hR, ?_⟩
  · exact ((((((Keeps.refl S w).alloc _).then hk).set (.inr (Nat.le_refl _)) _).set (.inr (Nat.le_refl _)) _).alloc _)
  · exact Below.alloc (below_set (below_set (hb.mono (by simp)) (Nat.le_refl _) _) (Nat.le_refl _) _) (by simp; omega) _
end Go.Proofs.Ytfjofiofgjlgiaa
