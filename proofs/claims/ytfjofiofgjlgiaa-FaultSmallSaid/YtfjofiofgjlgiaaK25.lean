/-
  Catch and Try of integers, where what is thrown is the number of an error. No condition.
-/
import Derived.Test.YtfjofiofgjlgiaaZ
namespace Go.Proofs.Ytfjofiofgjlgiaa
open Go.RowKit
attribute [local go_sem] onto_cell onto_frozen
theorem ta_no25 (w : World) : (Instr.typeAssert (.iface 25 (.int .i64 350)) 20 23 true).run Try.prog w = .ok (.tuple #[.agg #[.int .u8 0, .int .i64 0], .bool false]) w := by kernel_rfl
theorem caught1_on25 (a b : Nat) (older : List PanicEntry) (w : World) :
    CallsD Try.prog 60 #[.pointer (some ⟨a, 0, none⟩), .pointer (some ⟨b, 0, none⟩)] (.panicking ({ v := .iface 25 (.int .i64 350), recovered := false } :: older)) w fun e u' w' =>
      e = .panicked [{ v := .iface 25 (.int .i64 350), recovered := false }] ∧ u' = .panicking ({ v := .iface 25 (.int .i64 350), recovered := true } :: older) ∧ Keeps Non w w' := by
  refine callsD_of_wpS Try.func60 rfl fun c₀ cs hu => ?_
  apply wpS_seq
  apply wpS_region
  simp [wpOpsS, go_sem, recoverD, hu, Try.ntmps60, Exit.thenS, Array.replicate]
  refine wpS_of_wp ?_
  clear hu
  have t1 := ta_yes
  have t2 := ta_no25
  go_wp2_with (go_at_call 43; refine (there_any _ _).mono ?_; rintro e w' ⟨rfl, rfl⟩)
  exact ⟨rfl, _, rfl, rfl, rfl, (Keeps.refl _ w).alloc _⟩
theorem caught_on25 (g : Nat) (cap : Array Value) (w : World) (S : Nat → Prop) (R : World → Prop) (eg : Enters g)
    (h : ∀ W0, Keeps Non w W0 → Calls Try.prog g cap W0 fun e W1 => (∃ older, e = .panicked ({ v := .iface 25 (.int .i64 350), recovered := false } :: older) ∧ NoExit older) ∧ Keeps S W0 W1 ∧ R W1) :
    Calls Try.prog 42 #[.func (.func g) #[] cap] w fun e w' => (∃ older, e = .panicked ({ v := .iface 25 (.int .i64 350), recovered := false } :: older) ∧ NoExit older) ∧ Keeps S w w' ∧ ∃ W1, R W1 ∧ Below w.heap.size W1 w' := by
  unfold Enters at eg
  have hmf : ∀ (fn : Fn) (first cap : Array Value) (w : World), (Instr.makeFunc fn first cap).run Try.prog w = .ok (.func fn first cap) w := fun _ _ _ _ => rfl
  go_enter_defers Try.func42, Try.ntmps42
  go_wp2_with fail
  refine (h _ (((Keeps.refl _ _).alloc _).alloc _)).mono ?_
  rintro e W1 ⟨⟨older, rfl, hno⟩, hk, hR⟩
  go_wp2
  refine leaves_cons (f := 60) (args := #[.pointer (some ⟨w.heap.size, 0, none⟩), .pointer (some ⟨w.heap.size + 1, 0, none⟩)]) (by simp) (by simp [go_sem]) ?_
  refine (caught1_on25 _ _ older _).mono ?_
  rintro e u' w'' ⟨rfl, rfl, hk2⟩
  simp only [Leaves, raised]
  unfold NoExit at *
  refine ⟨⟨_, rfl, ?_⟩, ((((Keeps.refl S w).alloc _).alloc _).then hk).thenNon hk2, W1, hR, hk2.belowOf (by have := hk.size; simp at this; omega) (fun _ _ x => x)⟩
  simp [hno]
theorem catch_on25 (g : Nat) (cap : Array Value) (w : World) (S : Nat → Prop) (R : World → Prop) (eg : Enters g)
    (h : ∀ W0, Keeps Non w W0 → Calls Try.prog g cap W0 fun e W1 => (∃ older, e = .panicked ({ v := .iface 25 (.int .i64 350), recovered := false } :: older) ∧ NoExit older) ∧ Keeps S W0 W1 ∧ R W1) :
    Calls Try.prog 13 #[.func (.func g) #[] cap] w fun e w' => (∃ older, e = .panicked ({ v := .iface 25 (.int .i64 350), recovered := false } :: older) ∧ NoExit older) ∧ Keeps S w w' ∧ ∃ W1, R W1 ∧ Below w.heap.size W1 w' := by
  have hf : ∀ w, (binOp .eql 1 (.func (.func g) #[] cap) .nilFunc).run Try.prog w = .ok (.bool false) w := fun _ => by kernel_rfl
  go_enter Try.func13, Try.ntmps13
  go_wp2_with fail
  refine (caught_on25 g cap _ S R eg (fun W0 hW => h W0 (((Keeps.refl _ _).alloc _).then hW))).mono ?_
  rintro e w1 ⟨⟨older, rfl, hno⟩, hk, W1, hR, hb⟩
  have H := hide hno
  clear hno
  go_wp2
  exact ⟨rfl, ⟨older, rfl, H.out⟩, ((Keeps.refl S w).alloc _).then hk, W1, hR, hb.mono (by simp)⟩
theorem tryI1_on25 (g : Nat) (cap : Array Value) (w : World) (S : Nat → Prop) (R : World → Prop) (a b : Nat) (eg : Enters g)
    (ha : Blk w a [.func (.func g) #[] cap] 52)
    (h : Calls Try.prog g cap w fun e W1 => (∃ older, e = .panicked ({ v := .iface 25 (.int .i64 350), recovered := false } :: older) ∧ NoExit older) ∧ Keeps S w W1 ∧ R W1) :
    Calls Try.prog 62 #[.pointer (some ⟨a, 0, none⟩), .pointer (some ⟨b, 0, none⟩)] w fun e w' => (∃ older, e = .panicked ({ v := .iface 25 (.int .i64 350), recovered := false } :: older) ∧ NoExit older) ∧ Keeps S w w' ∧ R w' := by
  unfold Enters at eg
  have a0 : w.cell? ⟨a, 0, none⟩ = some (.func (.func g) #[] cap) := ha.cell 0
  go_enter Try.func62, Try.ntmps62
  go_wp2_with fail
  refine h.mono ?_
  rintro e W1 ⟨⟨older, rfl, hno⟩, hk, hR⟩
  have H := hide hno
  clear hno
  go_wp2
  exact ⟨rfl, ⟨older, rfl, H.out⟩, hk, hR⟩
theorem tryI_on25 (g : Nat) (cap : Array Value) (w : World) (S : Nat → Prop) (R : World → Prop) (eg : Enters g)
    (h : ∀ W0, Keeps Non w W0 → Calls Try.prog g cap W0 fun e W1 => (∃ older, e = .panicked ({ v := .iface 25 (.int .i64 350), recovered := false } :: older) ∧ NoExit older) ∧ Keeps S W0 W1 ∧ R W1) :
    Calls Try.prog 58 #[.func (.func g) #[] cap] w fun e w' => (∃ older, e = .panicked ({ v := .iface 25 (.int .i64 350), recovered := false } :: older) ∧ NoExit older) ∧ Keeps S w w' ∧ ∃ W1, R W1 ∧ Below w.heap.size W1 w' := by
  have hf : ∀ w, (binOp .eql 52 (.func (.func g) #[] cap) .nilFunc).run Try.prog w = .ok (.bool false) w := fun _ => by kernel_rfl
  have hmf : ∀ (fn : Fn) (first cap : Array Value) (w : World), (Instr.makeFunc fn first cap).run Try.prog w = .ok (.func fn first cap) w := fun _ _ _ _ => rfl
  go_enter Try.func58, Try.ntmps58
  go_wp2_with fail
  obtain ⟨W3, hW3⟩ : ∃ W3, ((w.alloc (.cells #[.func (.func g) #[] cap] 52)).alloc (.cells #[.int .u8 0, .int .i64 0] 23)).alloc (.cells #[.int .i64 0] 3) = W3 := ⟨_, rfl⟩
  have s3 : W3.heap.size = w.heap.size + 3 := by rw [← hW3]; simp
  have k3 : Keeps Non w W3 := by rw [← hW3]; exact (((Keeps.refl _ _).alloc _).alloc _).alloc _
  have ba : Blk W3 w.heap.size [.func (.func g) #[] cap] 52 := by rw [← hW3]; exact ((Blk.new w _ _).alloc _).alloc _
  have _bb : Blk W3 (w.heap.size + 1) [.int .u8 0, .int .i64 0] 23 := by
    have := (Blk.new (w.alloc (.cells #[.func (.func g) #[] cap] 52)) [.int .u8 0, .int .i64 0] 23).alloc (.cells #[.int .i64 0] 3)
    rw [← hW3]; simpa using this
  have _bc : Blk W3 (w.heap.size + 1 + 1) [.int .i64 0] 3 := by
    have := Blk.new ((w.alloc (.cells #[.func (.func g) #[] cap] 52)).alloc (.cells #[.int .u8 0, .int .i64 0] 23)) [.int .i64 0] 3
    rw [← hW3]; simpa using this
  rw [hW3]
  clear hW3
  refine (caught_on25 62 _ W3 S R (fun _ _ => by kernel_rfl)
    (fun W0 hW => tryI1_on25 g cap W0 S R _ _ eg (ba.keeps hW (fun x => x)) (h W0 (k3.then hW)))).mono ?_
  rintro e w1 ⟨⟨older, rfl, hno⟩, hk, W1, hR, hbel⟩
  have hkk : Keeps S w w1 := k3.nonThen hk
  have H := hide hno
  clear hno
  go_wp2
  exact ⟨rfl, ⟨older, rfl, H.out⟩, hkk, W1, hR, hbel.mono (by omega)⟩
theorem ta8_25 (v : Value) (w : World) : (Instr.typeAssert (.iface 8 v) 20 25 true).run Try.prog w = .ok (.tuple #[.int .i64 0, .bool false]) w := by kernel_rfl
theorem ta25_25 (w : World) : (Instr.typeAssert (.iface 25 (.int .i64 350)) 20 25 true).run Try.prog w = .ok (.tuple #[.int .i64 350, .bool true]) w := by kernel_rfl
theorem eq_nn (w : World) : (binOp .eql 20 .nilIface .nilIface).run Try.prog w = .ok (.bool true) w := by kernel_rfl
theorem thrown_nil (w : World) : Calls Try.prog 40 #[.nilIface] w fun e w' => e = .returned (.tuple #[.int .i64 0, .int .i64 0]) ∧ Keeps Non w w' := by
  have q := eq_nn
  go_enter Try.func40, Try.ntmps40
  go_wp2
  go_ret2
  exact ⟨rfl, Keeps.refl _ _⟩
theorem thrown_8 (v : Value) (w : World) : Calls Try.prog 40 #[.iface 8 v] w fun e w' => e = .returned (.tuple #[.int .i64 9, .int .i64 0]) ∧ Keeps Non w w' := by
  have q := eq_nil
  have t1 := ta_no
  have t2 := ta8_25
  have t3 := te_yes
  go_enter Try.func40, Try.ntmps40
  go_wp2
  go_ret2
  exact ⟨rfl, Keeps.refl _ _⟩
theorem thrown_25 (w : World) : Calls Try.prog 40 #[.iface 25 (.int .i64 350)] w fun e w' => e = .returned (.tuple #[.int .i64 9, .int .i64 0]) ∧ Keeps Non w w' := by
  have q := eq_nil
  have t1 := ta_no25
  have t2 := ta25_25
  go_enter Try.func40, Try.ntmps40
  go_wp2
  go_ret2
  exact ⟨rfl, Keeps.refl _ _⟩
end Go.Proofs.Ytfjofiofgjlgiaa
