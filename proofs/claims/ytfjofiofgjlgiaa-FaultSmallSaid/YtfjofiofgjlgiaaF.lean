/-
  Walks over layer 35: Try at strings. No condition.
-/
import Derived.Test.YtfjofiofgjlgiaaE
namespace Go.Proofs.Ytfjofiofgjlgiaa
open Go.RowKit
/-! ### Try of a string -/
theorem tryS1_ret (g : Nat) (cap : Array Value) (w : World) (S : Nat → Prop) (R : World → Prop) (x : ByteArray) (x0 : Value) (a b : Nat) (eg : Enters g) (hS : ¬ S a ∧ ¬ S b)
    (ha : Blk w a [.func (.func g) #[] cap] 35) (hb : Blk w b [x0] 9)
    (h : Calls Try.prog g cap w fun e W1 => e = .returned (Value.string x) ∧ Keeps S w W1 ∧ R W1) :
    Calls Try.prog 51 #[.pointer (some ⟨a, 0, none⟩), .pointer (some ⟨b, 0, none⟩)] w fun e w' => e = .returned (.tuple #[]) ∧ Keeps (fun i => S i ∨ i = b) w w' ∧ Blk w' b [Value.string x] 9 ∧ ∃ W1, R W1 ∧ w' = W1.setCell ⟨b, 0, none⟩ (Value.string x) := by
  unfold Enters at eg
  have a0 : w.cell? ⟨a, 0, none⟩ = some (.func (.func g) #[] cap) := ha.cell 0
  go_enter Try.func51, Try.ntmps51
  go_wp2_with fail
  refine h.mono ?_
  rintro e W1 ⟨rfl, hk, hR⟩
  have hb1 := hb.keeps hk hS.2
  have b0 : W1.cell? ⟨b, 0, none⟩ = some x0 := hb1.cell 0
  have fb := hb1.free 0 none
  go_wp2
  go_end0
  exact ⟨rfl, (hk.weak (fun _ _ x => .inl x)).set (.inl (.inr rfl)) _, hb1.store 0 _, W1, hR, rfl⟩
theorem tryS1_fault (g : Nat) (cap : Array Value) (w : World) (S : Nat → Prop) (R : World → Prop) (k m : Int) (a b : Nat) (eg : Enters g)
    (ha : Blk w a [.func (.func g) #[] cap] 35)
    (h : Calls Try.prog g cap w fun e W1 => (∃ older, e = .panicked ({ v := .iface 23 (flt k m), recovered := false } :: older) ∧ NoExit older) ∧ Keeps S w W1 ∧ R W1) :
    Calls Try.prog 51 #[.pointer (some ⟨a, 0, none⟩), .pointer (some ⟨b, 0, none⟩)] w fun e w' => (∃ older, e = .panicked ({ v := .iface 23 (flt k m), recovered := false } :: older) ∧ NoExit older) ∧ Keeps S w w' ∧ R w' := by
  unfold Enters at eg
  have a0 : w.cell? ⟨a, 0, none⟩ = some (.func (.func g) #[] cap) := ha.cell 0
  go_enter Try.func51, Try.ntmps51
  go_wp2_with fail
  refine h.mono ?_
  rintro e W1 ⟨⟨older, rfl, hno⟩, hk, hR⟩
  have H := hide hno
  clear hno
  go_wp2
  exact ⟨rfl, ⟨older, rfl, H.out⟩, hk, hR⟩
theorem tryS1_on (g : Nat) (cap : Array Value) (w : World) (S : Nat → Prop) (R : World → Prop) (a b : Nat) (eg : Enters g)
    (ha : Blk w a [.func (.func g) #[] cap] 35)
    (h : Calls Try.prog g cap w fun e W1 => (∃ v older, e = .panicked ({ v := .iface 8 v, recovered := false } :: older) ∧ NoExit older) ∧ Keeps S w W1 ∧ R W1) :
    Calls Try.prog 51 #[.pointer (some ⟨a, 0, none⟩), .pointer (some ⟨b, 0, none⟩)] w fun e w' => (∃ v older, e = .panicked ({ v := .iface 8 v, recovered := false } :: older) ∧ NoExit older) ∧ Keeps S w w' ∧ R w' := by
  unfold Enters at eg
  have a0 : w.cell? ⟨a, 0, none⟩ = some (.func (.func g) #[] cap) := ha.cell 0
  go_enter Try.func51, Try.ntmps51
  go_wp2_with fail
  refine h.mono ?_
  rintro e W1 ⟨⟨v, older, rfl, hno⟩, hk, hR⟩
  have H := hide hno
  clear hno
  go_wp2
  exact ⟨rfl, ⟨v, older, rfl, H.out⟩, hk, hR⟩

theorem tryS_ret (g : Nat) (cap : Array Value) (w : World) (S : Nat → Prop) (R : World → Prop) (x : ByteArray) (eg : Enters g) (hS : ∀ k, S k → k < w.heap.size)
    (h : ∀ W0, Keeps Non w W0 → Calls Try.prog g cap W0 fun e W1 => e = .returned (Value.string x) ∧ Keeps S W0 W1 ∧ R W1) :
    Calls Try.prog 20 #[.func (.func g) #[] cap] w fun e w' => e = .returned (.tuple #[Value.string x, flt 0 0, .bool false, .int .i64 0]) ∧ Keeps S w w' ∧ ∃ W1, R W1 ∧ Below w.heap.size W1 w' := by
  have hf : ∀ w, (binOp .eql 35 (.func (.func g) #[] cap) .nilFunc).run Try.prog w = .ok (.bool false) w := fun _ => by kernel_rfl
  have hmf : ∀ (fn : Fn) (first cap : Array Value) (w : World), (Instr.makeFunc fn first cap).run Try.prog w = .ok (.func fn first cap) w := fun _ _ _ _ => rfl
  go_enter Try.func20, Try.ntmps20
  go_wp2_with fail
  obtain ⟨W3, hW3⟩ : ∃ W3, ((w.alloc (.cells #[.func (.func g) #[] cap] 35)).alloc (.cells #[.int .u8 0, .int .i64 0] 23)).alloc (.cells #[.string ⟨#[]⟩] 9) = W3 := ⟨_, rfl⟩
  have s3 : W3.heap.size = w.heap.size + 3 := by rw [← hW3]; simp
  have k3 : Keeps Non w W3 := by rw [← hW3]; exact (((Keeps.refl _ _).alloc _).alloc _).alloc _
  have ba : Blk W3 w.heap.size [.func (.func g) #[] cap] 35 := by rw [← hW3]; exact ((Blk.new w _ _).alloc _).alloc _
  have bb : Blk W3 (w.heap.size + 1) [.int .u8 0, .int .i64 0] 23 := by
    have := (Blk.new (w.alloc (.cells #[.func (.func g) #[] cap] 35)) [.int .u8 0, .int .i64 0] 23).alloc (.cells #[.string ⟨#[]⟩] 9)
    rw [← hW3]; simpa using this
  have bc : Blk W3 (w.heap.size + 1 + 1) [.string ⟨#[]⟩] 9 := by
    have := Blk.new ((w.alloc (.cells #[.func (.func g) #[] cap] 35)).alloc (.cells #[.int .u8 0, .int .i64 0] 23)) [.string ⟨#[]⟩] 9
    rw [← hW3]; simpa using this
  rw [hW3]
  clear hW3
  refine (caught_ret 51 _ W3 (fun i => S i ∨ i = w.heap.size + 1 + 1) (fun W' => Blk W' (w.heap.size + 1 + 1) [Value.string x] 9 ∧ ∃ W1, R W1 ∧ W' = W1.setCell ⟨w.heap.size + 1 + 1, 0, none⟩ (Value.string x)) (fun _ _ => by kernel_rfl)
    (by rintro k (hk | hk); · have := hS k hk; omega
        · omega)
    (fun W0 hW => (tryS1_ret g cap W0 S R x (.string ⟨#[]⟩) _ _ eg ⟨fun x => Nat.lt_irrefl _ (hS _ x), fun x => by have := hS _ x; omega⟩ (ba.keeps hW (fun x => x)) (bc.keeps hW (fun x => x)) (h W0 (k3.then hW))).mono
      fun e W' ⟨he, hk, hb, hr⟩ => ⟨⟨_, he⟩, hk, hb, hr⟩)).mono ?_
  rintro e w1 ⟨rfl, hk, W', ⟨hbx, W1, hR, rfl⟩, hbel⟩
  have hkk : Keeps (fun i => S i ∨ i = w.heap.size + 1 + 1) w w1 := k3.nonThen hk
  have hx := hbx.below hbel (by omega)
  have hr := bb.keeps hk (by rintro (x | x); · have := hS _ x; omega
                             · omega)
  have x0 : w1.cell? ⟨w.heap.size + 1 + 1, 0, none⟩ = some (Value.string x) := hx.cell 0
  have r0 : w1.cell? ⟨w.heap.size + 1, 0, none⟩ = some (.int .u8 0) := hr.cell 0
  have r1 : w1.cell? ⟨w.heap.size + 1, 1, none⟩ = some (.int .i64 0) := hr.cell 1
  have fr0 := hr.free 0 none
  have fr1 := hr.free 1 none
  have lr := hr.lt
  have lx := hx.lt
  clear hbx hx
  unfold flt
  go_wp2
  refine bodyPost_ret (v := .tuple #[Value.string x, .agg #[.int .u8 0, .int .i64 0], .bool false, .int .i64 0]) (by simp [results, Try.results20, go_sem, lr, r0, r1]) rfl ⟨rfl, ?_, W1, hR, ?_⟩
  · exact ((((hkk.weak (T := fun i => S i) (fun i hi x => x.resolve_right (by omega))).set (.inr (by omega)) _).set (.inr (by omega)) _).alloc _)
  · exact Below.alloc (below_set (below_set ((below_set (Below.refl w.heap.size W1) (by omega) _).trans (hbel.mono (by omega))) (by omega) _) (by omega) _) (by simp; omega) _

theorem tryS_fault (g : Nat) (cap : Array Value) (w : World) (S : Nat → Prop) (R : World → Prop) (k m : Int) (hth : thereB k = true) (eg : Enters g) (hS : ∀ k, S k → k < w.heap.size)
    (h : ∀ W0, Keeps Non w W0 → Calls Try.prog g cap W0 fun e W1 => (∃ older, e = .panicked ({ v := .iface 23 (flt k m), recovered := false } :: older) ∧ NoExit older) ∧ Keeps S W0 W1 ∧ R W1) :
    Calls Try.prog 20 #[.func (.func g) #[] cap] w fun e w' => e = .returned (.tuple #[.string ⟨#[]⟩, flt k m, .bool true, .int .i64 0]) ∧ Keeps S w w' ∧ ∃ W1, R W1 ∧ Below w.heap.size W1 w' := by
  have hf : ∀ w, (binOp .eql 35 (.func (.func g) #[] cap) .nilFunc).run Try.prog w = .ok (.bool false) w := fun _ => by kernel_rfl
  have hmf : ∀ (fn : Fn) (first cap : Array Value) (w : World), (Instr.makeFunc fn first cap).run Try.prog w = .ok (.func fn first cap) w := fun _ _ _ _ => rfl
  go_enter Try.func20, Try.ntmps20
  go_wp2_with fail
  obtain ⟨W3, hW3⟩ : ∃ W3, ((w.alloc (.cells #[.func (.func g) #[] cap] 35)).alloc (.cells #[.int .u8 0, .int .i64 0] 23)).alloc (.cells #[.string ⟨#[]⟩] 9) = W3 := ⟨_, rfl⟩
  have s3 : W3.heap.size = w.heap.size + 3 := by rw [← hW3]; simp
  have k3 : Keeps Non w W3 := by rw [← hW3]; exact (((Keeps.refl _ _).alloc _).alloc _).alloc _
  have ba : Blk W3 w.heap.size [.func (.func g) #[] cap] 35 := by rw [← hW3]; exact ((Blk.new w _ _).alloc _).alloc _
  have bb : Blk W3 (w.heap.size + 1) [.int .u8 0, .int .i64 0] 23 := by
    have := (Blk.new (w.alloc (.cells #[.func (.func g) #[] cap] 35)) [.int .u8 0, .int .i64 0] 23).alloc (.cells #[.string ⟨#[]⟩] 9)
    rw [← hW3]; simpa using this
  have bc : Blk W3 (w.heap.size + 1 + 1) [.string ⟨#[]⟩] 9 := by
    have := Blk.new ((w.alloc (.cells #[.func (.func g) #[] cap] 35)).alloc (.cells #[.int .u8 0, .int .i64 0] 23)) [.string ⟨#[]⟩] 9
    rw [← hW3]; simpa using this
  rw [hW3]
  clear hW3
  refine (caught_fault 51 _ W3 S k m R hth (fun _ _ => by kernel_rfl) (fun k hk => by have := hS k hk; omega)
    (fun W0 hW => tryS1_fault g cap W0 S R k m _ _ eg (ba.keeps hW (fun x => x)) (h W0 (k3.then hW)))).mono ?_
  rintro e w1 ⟨rfl, hk, W1, hR, hbel⟩
  have hkk : Keeps S w w1 := k3.nonThen hk
  have hr := bb.keeps hk (fun x => by have := hS _ x; omega)
  have r0 : w1.cell? ⟨w.heap.size + 1, 0, none⟩ = some (.int .u8 0) := hr.cell 0
  have r1 : w1.cell? ⟨w.heap.size + 1, 1, none⟩ = some (.int .i64 0) := hr.cell 1
  have fr0 := hr.free 0 none
  have fr1 := hr.free 1 none
  have lr := hr.lt
  clear hth
  unfold flt at *
  go_wp2
  go_region
  all_goals go_wp2
  all_goals
    refine bodyPost_ret (v := .tuple #[.string ⟨#[]⟩, .agg #[.int .u8 k, .int .i64 m], .bool true, .int .i64 0]) (by simp [results, Try.results20, go_sem, lr, r0, r1]) rfl ⟨rfl, ?_, W1, hR, ?_⟩
    · exact (((((hkk.set (.inr (by omega)) _).set (.inr (by omega)) _).alloc _)).drew)
    · exact (Below.alloc (below_set (below_set (hbel.mono (by omega)) (by omega) _) (by omega) _) (by simp; omega) _).drew

theorem tryS_on (g : Nat) (cap : Array Value) (w : World) (S : Nat → Prop) (R : World → Prop) (eg : Enters g)
    (h : ∀ W0, Keeps Non w W0 → Calls Try.prog g cap W0 fun e W1 => (∃ v older, e = .panicked ({ v := .iface 8 v, recovered := false } :: older) ∧ NoExit older) ∧ Keeps S W0 W1 ∧ R W1) :
    Calls Try.prog 20 #[.func (.func g) #[] cap] w fun e w' => (∃ v older, e = .panicked ({ v := .iface 8 v, recovered := false } :: older) ∧ NoExit older) ∧ Keeps S w w' ∧ ∃ W1, R W1 ∧ Below w.heap.size W1 w' := by
  have hf : ∀ w, (binOp .eql 35 (.func (.func g) #[] cap) .nilFunc).run Try.prog w = .ok (.bool false) w := fun _ => by kernel_rfl
  have hmf : ∀ (fn : Fn) (first cap : Array Value) (w : World), (Instr.makeFunc fn first cap).run Try.prog w = .ok (.func fn first cap) w := fun _ _ _ _ => rfl
  go_enter Try.func20, Try.ntmps20
  go_wp2_with fail
  obtain ⟨W3, hW3⟩ : ∃ W3, ((w.alloc (.cells #[.func (.func g) #[] cap] 35)).alloc (.cells #[.int .u8 0, .int .i64 0] 23)).alloc (.cells #[.string ⟨#[]⟩] 9) = W3 := ⟨_, rfl⟩
  have s3 : W3.heap.size = w.heap.size + 3 := by rw [← hW3]; simp
  have k3 : Keeps Non w W3 := by rw [← hW3]; exact (((Keeps.refl _ _).alloc _).alloc _).alloc _
  have ba : Blk W3 w.heap.size [.func (.func g) #[] cap] 35 := by rw [← hW3]; exact ((Blk.new w _ _).alloc _).alloc _
  have _bb : Blk W3 (w.heap.size + 1) [.int .u8 0, .int .i64 0] 23 := by
    have := (Blk.new (w.alloc (.cells #[.func (.func g) #[] cap] 35)) [.int .u8 0, .int .i64 0] 23).alloc (.cells #[.string ⟨#[]⟩] 9)
    rw [← hW3]; simpa using this
  have _bc : Blk W3 (w.heap.size + 1 + 1) [.string ⟨#[]⟩] 9 := by
    have := Blk.new ((w.alloc (.cells #[.func (.func g) #[] cap] 35)).alloc (.cells #[.int .u8 0, .int .i64 0] 23)) [.string ⟨#[]⟩] 9
    rw [← hW3]; simpa using this
  rw [hW3]
  clear hW3
  refine (caught_on 51 _ W3 S R (fun _ _ => by kernel_rfl)
    (fun W0 hW => tryS1_on g cap W0 S R _ _ eg (ba.keeps hW (fun x => x)) (h W0 (k3.then hW)))).mono ?_
  rintro e w1 ⟨⟨v, older, rfl, hno⟩, hk, W1, hR, hbel⟩
  have hkk : Keeps S w w1 := k3.nonThen hk
  have H := hide hno
  clear hno
  go_wp2
  exact ⟨rfl, ⟨v, older, rfl, H.out⟩, hkk, W1, hR, hbel.mono (by omega)⟩

end Go.Proofs.Ytfjofiofgjlgiaa
