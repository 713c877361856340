/-
  Walks over layer 35: outside and caught, over whatever function value. No condition.
-/
import Derived.Test.YtfjofiofgjlgiaaA
namespace Go.Proofs.Ytfjofiofgjlgiaa
open Go.RowKit

/-- g is a function of the program with a body. -/
def Enters (g : Nat) : Prop := ∀ args w, (callFunc g args).run Try.prog w = .ok (.enter g args) w

/-- No panic of the chain is a runtime.Goexit. -/
def NoExit (older : List PanicEntry) : Prop := older.dropWhile (!·.goexit) = []

theorem outside_ret (g : Nat) (cap : Array Value) (w : World) (S : Nat → Prop) (R : World → Prop) (eg : Enters g) (hS : ∀ k, S k → k < w.heap.size)
    (h : ∀ W0, Keeps Non w W0 → Calls Try.prog g cap W0 fun e W1 => (∃ v, e = .returned v) ∧ Keeps S W0 W1 ∧ R W1) :
    Calls Try.prog 11 #[.func (.func g) #[] cap] w fun e w' => e = .returned .nilIface ∧ Keeps S w w' ∧ ∃ W1, R W1 ∧ Below w.heap.size W1 w' := by
  unfold Enters at eg
  have hmf : ∀ (fn : Fn) (first cap : Array Value) (w : World), (Instr.makeFunc fn first cap).run Try.prog w = .ok (.func fn first cap) w := fun _ _ _ _ => rfl
  go_enter_defers Try.func11, Try.ntmps11
  go_wp2_with fail
  refine (h _ ((Keeps.refl _ _).alloc _)).mono ?_
  rintro e W1 ⟨⟨v, rfl⟩, hk, hR⟩
  have hb : Blk W1 w.heap.size [.nilIface] 20 := (Blk.new w [.nilIface] 20).keeps hk (fun x => Nat.lt_irrefl _ (hS _ x))
  have hc : W1.cell? ⟨w.heap.size, 0, none⟩ = some .nilIface := hb.cell 0
  have hf : W1.frozen? ⟨w.heap.size, 0, none⟩ = false := hb.free 0 none
  go_wp2
  have hb2 := hb.store 0 .nilIface
  refine leaves_cons (f := 41) (args := #[.pointer (some ⟨w.heap.size, 0, none⟩)]) (by simp) (by simp [go_sem]) ?_
  refine (outside1_idle _ _ _ hb2).mono ?_
  rintro e u' w'' ⟨rfl, rfl, rfl⟩
  have hb3 : (World.cell? _ _) = _ := (hb2.store 0 .nilIface).cell 0
  simp only [List.set_cons_zero, List.getElem?_cons_zero] at hb3
  simp only [Leaves, settle, results, Try.results11]
  have hk2 : Keeps S w ((W1.setCell ⟨w.heap.size, 0, none⟩ .nilIface).setCell ⟨w.heap.size, 0, none⟩ .nilIface) :=
    ((((Keeps.refl S w).alloc _).then hk).setCell (.inr (Nat.le_refl _)) _).setCell (.inr (Nat.le_refl _)) _
  refine ⟨_, ?_, rfl, hk2, W1, hR, below_set (below_set (Below.refl _ _) (Nat.le_refl _) _) (Nat.le_refl _) _⟩
  simp [go_sem, hb3]

theorem outside_panic (g : Nat) (cap : Array Value) (w : World) (S : Nat → Prop) (t : TypeId) (R : Value → World → Prop) (eg : Enters g) (hS : ∀ k, S k → k < w.heap.size)
    (h : ∀ W0, Keeps Non w W0 → Calls Try.prog g cap W0 fun e W1 => (∃ v older, e = .panicked ({ v := .iface t v, recovered := false } :: older) ∧ NoExit older ∧ R v W1) ∧ Keeps S W0 W1) :
    Calls Try.prog 11 #[.func (.func g) #[] cap] w fun e w' => ∃ v, e = .returned (.iface t v) ∧ Keeps S w w' ∧ ∃ W1, R v W1 ∧ Below w.heap.size W1 w' := by
  unfold Enters at eg
  have hmf : ∀ (fn : Fn) (first cap : Array Value) (w : World), (Instr.makeFunc fn first cap).run Try.prog w = .ok (.func fn first cap) w := fun _ _ _ _ => rfl
  go_enter_defers Try.func11, Try.ntmps11
  go_wp2_with fail
  refine (h _ ((Keeps.refl _ _).alloc _)).mono ?_
  rintro e W1 ⟨⟨v, older, rfl, hno, hR⟩, hk⟩
  have hb : Blk W1 w.heap.size [.nilIface] 20 := (Blk.new w [.nilIface] 20).keeps hk (fun x => Nat.lt_irrefl _ (hS _ x))
  go_wp2
  refine leaves_cons (f := 41) (args := #[.pointer (some ⟨w.heap.size, 0, none⟩)]) (by simp) (by simp [go_sem]) ?_
  refine (outside1_panic _ _ _ _ _ _ hb).mono ?_
  rintro e u' w'' ⟨rfl, rfl, rfl⟩
  have hb3 : (World.cell? _ _) = _ := (hb.store 0 (.iface t v)).cell 0
  simp only [List.set_cons_zero, List.getElem?_cons_zero] at hb3
  unfold NoExit at hno
  simp only [Leaves, settle, results, Try.results11, hno]
  have hk2 : Keeps S w (W1.setCell ⟨w.heap.size, 0, none⟩ (.iface t v)) :=
    (((Keeps.refl S w).alloc _).then hk).setCell (.inr (Nat.le_refl _)) _
  refine ⟨_, ?_, v, rfl, hk2, W1, hR, below_set (Below.refl _ _) (Nat.le_refl _) _⟩
  simp [go_sem, hb3]
end Go.Proofs.Ytfjofiofgjlgiaa
