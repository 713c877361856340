/-
  A REGION THAT DRAWS ITS ORDER, WHOSE OPERATIONS READ AND WHOSE CALLEES LEAVE ALL THAT WAS THERE AS IT WAS (they may make blocks): one walk in the text's order (Derived/Deep/Quiet.lean's theorem, at the class of all worlds that keep the first one's blocks). No condition.
-/
import Derived.Test.YtkcbahfmdokalaaKeep
import Derived.BigQuiet
import Derived.Deep.QuietTactic
namespace Go.Proofs.Ytkcbahfmdokalaa
open Go.RowKit
open Classical in
/-- u, if it keeps all that w has; else w itself. -/
noncomputable def onto (w u : World) : World := if Keeps Non w u then u else w
theorem onto_keeps (w u : World) : Keeps Non w (onto w u) := by
  unfold onto
  split
  · assumption
  · exact Keeps.refl _ _
theorem onto_of {w u : World} (h : Keeps Non w u) : onto w u = u := if_pos h
theorem onto_cell {w u : World} {n i : Nat} (h : n < w.heap.size) : (onto w u).cell? ⟨n, i, none⟩ = w.cell? ⟨n, i, none⟩ := (onto_keeps w u).cell (p := ⟨n, i, none⟩) h (fun x => x)
theorem onto_frozen {w u : World} {n i : Nat} (h : n < w.heap.size) : (onto w u).frozen? ⟨n, i, none⟩ = w.frozen? ⟨n, i, none⟩ := (onto_keeps w u).frozen (p := ⟨n, i, none⟩) h (fun x => x)
theorem onto_call {P : Program} {f : FuncId} {args : Array Value} {w u : World} {v : Value} (h : Calls P f args (onto w u) fun e w' => e = .returned v ∧ Keeps Non (onto w u) w') :
    Calls P f args (onto w u) fun e w'' => e = .returned v ∧ ∃ u', w'' = onto w u' :=
  h.mono fun _ w' ⟨he, hk⟩ => ⟨he, w', (onto_of ((onto_keeps w u).then hk)).symm⟩
theorem onto_same {P : Program} {f : FuncId} {args : Array Value} {w u : World} {v : Value} (h : Calls P f args (onto w u) fun e w' => e = .returned v ∧ onto w u = w') :
    Calls P f args (onto w u) fun e w'' => e = .returned v ∧ ∃ u', w'' = onto w u' :=
  h.mono fun _ _ ⟨he, hk⟩ => ⟨he, u, hk.symm⟩
theorem wp_region_onto {P : Program} {id : Nat} {Q : Exit → Act → World → Prop} {a : Act} {w : World} {l : List Oper} (hm : P.follows .mixedOrders = true) (hB : Region.lexB .any l.toArray = true)
    (h : wpQuiet P l.toArray (fun w' => ∃ u, w' = onto w u) (fun a' => ∀ w', (∃ u, w' = onto w u) → Q .normal a' w') l a) : (Code.region id l.toArray true).wp P Q a w :=
  wp_region_quiet (C := fun w' => ∃ u, w' = onto w u) hm hB ⟨w.drew, (onto_of (Keeps.refl Non w).drew).symm⟩ (by simpa using h)
attribute [local go_sem] onto_cell onto_frozen
end Go.Proofs.Ytkcbahfmdokalaa
