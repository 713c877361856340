/-
  No cell of these rows narrows 'for every input' (looked for: loops, veiled, ifaces, maps, wideKeys, modest, calm, conditions, laid).
  DERIVED. THE GIVEN ROWS OF THIS SEAT. 10 by the template 'for every input the law returns true; each argument reads behind the call as it read before'; 0 by the template 'total and deterministic' (their statements: YthpdflpkkiabhaaTotals.lean).
  GIVEN WITH THE SEED: the statements are not yours to turn. If you find one false, say at which input.
  Laid BY PROGRAM, IN A SANDBOX (cutbox-rows.mjs): the forced cells as the released guide's own fill.sh prints them over the translation f20a9479c777aa07… (all of the seat's roots in one cut). By AI agents, Wed Nov 11 2026. No macro, syntax, notation, axiom, sorry.
-/
import Derived.Test.YthpdflpkkiabhaaChecked
import GoSem.Claim
import GoSem.ClaimJoined
import GoSem.ClaimMapViews
import Derived.JoinedTies
import Derived.KernelRfl
namespace Go.Proofs.Ythpdflpkkiabhaa
/- THE CELL 'sum', in the pinned program and in every row, IS THE sha256 OF THE DUMP (.gsa) THAT YthpdflpkkiabhaaProg.lean LOADS. Nothing in Lean hashes anything: it is a label: what it is worth is what the hold of that sum in a sandbox is worth. -/
noncomputable def Try.pinned : Pinned := { name := "ythpdflpkkiabhaa", sum := "f20a9479c777aa0744b44e9cf252e928ab20d9231d748da133c4b28a2d925939", checked := Try.checked }
namespace Rows
def none {H : Type} : Left H := { results := [], args := [] }

/-- 'reparteelaw07.ReachRings': WHATEVER THE INPUT: true; the input reads as it did. -/
def reachRingsSpec : ChangeSpec := { name := "reachRings", fn := fun _ => fun
  | [d1, d2, d3, d4] => { results := [.lit (.bool true)], args := [d1, d2, d3, d4] }
  | _ => none }
def reachRingsRow : OpenClaim := { program := "ythpdflpkkiabhaa", sum := "f20a9479c777aa0744b44e9cf252e928ab20d9231d748da133c4b28a2d925939", func := "repartee/reparteelaw07.ReachRings", spec := "reachRings", unfollowed := true, recurses := true, apart := false }
def ReachRingsSaid : Prop := reachRingsRow.holds Try.pinned (OpenSpec.ofChange reachRingsSpec)

/-- ITS FALSE NEIGHBOUR: 'it returns false'. Refute it at one input. -/
def reachRingsWrong : ChangeSpec := { name := "reachRings", fn := fun _ => fun
  | [d1, d2, d3, d4] => { results := [.lit (.bool false)], args := [d1, d2, d3, d4] }
  | _ => none }
def ReachRingsWrongFalsely : Prop := reachRingsRow.holds Try.pinned (OpenSpec.ofChange reachRingsWrong)

/-- 'reparteelaw07.ReachCloses': WHATEVER THE INPUT: true; the input reads as it did. -/
def reachClosesSpec : ChangeSpec := { name := "reachCloses", fn := fun _ => fun
  | [d1, d2, d3, d4] => { results := [.lit (.bool true)], args := [d1, d2, d3, d4] }
  | _ => none }
def reachClosesRow : OpenClaim := { program := "ythpdflpkkiabhaa", sum := "f20a9479c777aa0744b44e9cf252e928ab20d9231d748da133c4b28a2d925939", func := "repartee/reparteelaw07.ReachCloses", spec := "reachCloses", unfollowed := true, recurses := true, apart := false }
def ReachClosesSaid : Prop := reachClosesRow.holds Try.pinned (OpenSpec.ofChange reachClosesSpec)

/-- ITS FALSE NEIGHBOUR: 'it returns false'. Refute it at one input. -/
def reachClosesWrong : ChangeSpec := { name := "reachCloses", fn := fun _ => fun
  | [d1, d2, d3, d4] => { results := [.lit (.bool false)], args := [d1, d2, d3, d4] }
  | _ => none }
def ReachClosesWrongFalsely : Prop := reachClosesRow.holds Try.pinned (OpenSpec.ofChange reachClosesWrong)

/-- 'reparteelaw07.ReachFinds': WHATEVER THE INPUT: true; the input reads as it did. -/
def reachFindsSpec : ChangeSpec := { name := "reachFinds", fn := fun _ => fun
  | [d1, d2, d3] => { results := [.lit (.bool true)], args := [d1, d2, d3] }
  | _ => none }
def reachFindsRow : OpenClaim := { program := "ythpdflpkkiabhaa", sum := "f20a9479c777aa0744b44e9cf252e928ab20d9231d748da133c4b28a2d925939", func := "repartee/reparteelaw07.ReachFinds", spec := "reachFinds", unfollowed := true, recurses := true, apart := false }
def ReachFindsSaid : Prop := reachFindsRow.holds Try.pinned (OpenSpec.ofChange reachFindsSpec)

/-- ITS FALSE NEIGHBOUR: 'it returns false'. Refute it at one input. -/
def reachFindsWrong : ChangeSpec := { name := "reachFinds", fn := fun _ => fun
  | [d1, d2, d3] => { results := [.lit (.bool false)], args := [d1, d2, d3] }
  | _ => none }
def ReachFindsWrongFalsely : Prop := reachFindsRow.holds Try.pinned (OpenSpec.ofChange reachFindsWrong)

/-- 'reparteelaw07.ReachBack': WHATEVER THE INPUT: true; the input reads as it did. -/
def reachBackSpec : ChangeSpec := { name := "reachBack", fn := fun _ => fun
  | [d1, d2, d3, d4] => { results := [.lit (.bool true)], args := [d1, d2, d3, d4] }
  | _ => none }
def reachBackRow : OpenClaim := { program := "ythpdflpkkiabhaa", sum := "f20a9479c777aa0744b44e9cf252e928ab20d9231d748da133c4b28a2d925939", func := "repartee/reparteelaw07.ReachBack", spec := "reachBack", unfollowed := true, recurses := true, apart := false }
def ReachBackSaid : Prop := reachBackRow.holds Try.pinned (OpenSpec.ofChange reachBackSpec)

/-- ITS FALSE NEIGHBOUR: 'it returns false'. Refute it at one input. -/
def reachBackWrong : ChangeSpec := { name := "reachBack", fn := fun _ => fun
  | [d1, d2, d3, d4] => { results := [.lit (.bool false)], args := [d1, d2, d3, d4] }
  | _ => none }
def ReachBackWrongFalsely : Prop := reachBackRow.holds Try.pinned (OpenSpec.ofChange reachBackWrong)

/-- 'reparteelaw07.ReachOne': WHATEVER THE INPUT: true; the input reads as it did. -/
def reachOneSpec : ChangeSpec := { name := "reachOne", fn := fun _ => fun
  | [d1, d2] => { results := [.lit (.bool true)], args := [d1, d2] }
  | _ => none }
def reachOneRow : OpenClaim := { program := "ythpdflpkkiabhaa", sum := "f20a9479c777aa0744b44e9cf252e928ab20d9231d748da133c4b28a2d925939", func := "repartee/reparteelaw07.ReachOne", spec := "reachOne", unfollowed := true, recurses := true, apart := false }
def ReachOneSaid : Prop := reachOneRow.holds Try.pinned (OpenSpec.ofChange reachOneSpec)

/-- ITS FALSE NEIGHBOUR: 'it returns false'. Refute it at one input. -/
def reachOneWrong : ChangeSpec := { name := "reachOne", fn := fun _ => fun
  | [d1, d2] => { results := [.lit (.bool false)], args := [d1, d2] }
  | _ => none }
def ReachOneWrongFalsely : Prop := reachOneRow.holds Try.pinned (OpenSpec.ofChange reachOneWrong)

/-- 'reparteelaw07.ReachSome': WHATEVER THE INPUT: true; the input reads as it did. -/
def reachSomeSpec : ChangeSpec := { name := "reachSome", fn := fun _ => fun
  | [d1, d2] => { results := [.lit (.bool true)], args := [d1, d2] }
  | _ => none }
def reachSomeRow : OpenClaim := { program := "ythpdflpkkiabhaa", sum := "f20a9479c777aa0744b44e9cf252e928ab20d9231d748da133c4b28a2d925939", func := "repartee/reparteelaw07.ReachSome", spec := "reachSome", unfollowed := true, recurses := true, apart := false }
def ReachSomeSaid : Prop := reachSomeRow.holds Try.pinned (OpenSpec.ofChange reachSomeSpec)

/-- ITS FALSE NEIGHBOUR: 'it returns false'. Refute it at one input. -/
def reachSomeWrong : ChangeSpec := { name := "reachSome", fn := fun _ => fun
  | [d1, d2] => { results := [.lit (.bool false)], args := [d1, d2] }
  | _ => none }
def ReachSomeWrongFalsely : Prop := reachSomeRow.holds Try.pinned (OpenSpec.ofChange reachSomeWrong)

/-- 'reparteelaw07.ReachSmall': WHATEVER THE INPUT: true; the input reads as it did. -/
def reachSmallSpec : ChangeSpec := { name := "reachSmall", fn := fun _ => fun
  | [] => { results := [.lit (.bool true)], args := [] }
  | _ => none }
def reachSmallRow : OpenClaim := { program := "ythpdflpkkiabhaa", sum := "f20a9479c777aa0744b44e9cf252e928ab20d9231d748da133c4b28a2d925939", func := "repartee/reparteelaw07.ReachSmall", spec := "reachSmall", unfollowed := true, recurses := true, apart := false }
def ReachSmallSaid : Prop := reachSmallRow.holds Try.pinned (OpenSpec.ofChange reachSmallSpec)

/-- ITS FALSE NEIGHBOUR: 'it returns false'. Refute it at one input. -/
def reachSmallWrong : ChangeSpec := { name := "reachSmall", fn := fun _ => fun
  | [] => { results := [.lit (.bool false)], args := [] }
  | _ => none }
def ReachSmallWrongFalsely : Prop := reachSmallRow.holds Try.pinned (OpenSpec.ofChange reachSmallWrong)

/-- 'reparteelaw07.ReachWrong': WHATEVER THE INPUT: true; the input reads as it did. -/
def reachWrongSpec : ChangeSpec := { name := "reachWrong", fn := fun _ => fun
  | [d1, d2, d3, d4] => { results := [.lit (.bool true)], args := [d1, d2, d3, d4] }
  | _ => none }
def reachWrongRow : OpenClaim := { program := "ythpdflpkkiabhaa", sum := "f20a9479c777aa0744b44e9cf252e928ab20d9231d748da133c4b28a2d925939", func := "repartee/reparteelaw07.ReachWrong", spec := "reachWrong", unfollowed := true, recurses := true, apart := false }
def ReachWrongSaid : Prop := reachWrongRow.holds Try.pinned (OpenSpec.ofChange reachWrongSpec)

/-- ITS FALSE NEIGHBOUR: 'it returns false'. Refute it at one input. -/
def reachWrongWrong : ChangeSpec := { name := "reachWrong", fn := fun _ => fun
  | [d1, d2, d3, d4] => { results := [.lit (.bool false)], args := [d1, d2, d3, d4] }
  | _ => none }
def ReachWrongWrongFalsely : Prop := reachWrongRow.holds Try.pinned (OpenSpec.ofChange reachWrongWrong)

/-- 'reparteelaw07.ReachOnly': WHATEVER THE INPUT: true; the input reads as it did. -/
def reachOnlySpec : ChangeSpec := { name := "reachOnly", fn := fun _ => fun
  | [d1, d2, d3] => { results := [.lit (.bool true)], args := [d1, d2, d3] }
  | _ => none }
def reachOnlyRow : OpenClaim := { program := "ythpdflpkkiabhaa", sum := "f20a9479c777aa0744b44e9cf252e928ab20d9231d748da133c4b28a2d925939", func := "repartee/reparteelaw07.ReachOnly", spec := "reachOnly", unfollowed := true, recurses := true, apart := false }
def ReachOnlySaid : Prop := reachOnlyRow.holds Try.pinned (OpenSpec.ofChange reachOnlySpec)

/-- ITS FALSE NEIGHBOUR: 'it returns false'. Refute it at one input. -/
def reachOnlyWrong : ChangeSpec := { name := "reachOnly", fn := fun _ => fun
  | [d1, d2, d3] => { results := [.lit (.bool false)], args := [d1, d2, d3] }
  | _ => none }
def ReachOnlyWrongFalsely : Prop := reachOnlyRow.holds Try.pinned (OpenSpec.ofChange reachOnlyWrong)

/-- 'reparteelaw07.ReachMusts': WHATEVER THE INPUT: true; the input reads as it did. -/
def reachMustsSpec : ChangeSpec := { name := "reachMusts", fn := fun _ => fun
  | [d1, d2, d3, d4, d5] => { results := [.lit (.bool true)], args := [d1, d2, d3, d4, d5] }
  | _ => none }
def reachMustsRow : OpenClaim := { program := "ythpdflpkkiabhaa", sum := "f20a9479c777aa0744b44e9cf252e928ab20d9231d748da133c4b28a2d925939", func := "repartee/reparteelaw07.ReachMusts", spec := "reachMusts", unfollowed := true, recurses := true, apart := false }
def ReachMustsSaid : Prop := reachMustsRow.holds Try.pinned (OpenSpec.ofChange reachMustsSpec)

/-- ITS FALSE NEIGHBOUR: 'it returns false'. Refute it at one input. -/
def reachMustsWrong : ChangeSpec := { name := "reachMusts", fn := fun _ => fun
  | [d1, d2, d3, d4, d5] => { results := [.lit (.bool false)], args := [d1, d2, d3, d4, d5] }
  | _ => none }
def ReachMustsWrongFalsely : Prop := reachMustsRow.holds Try.pinned (OpenSpec.ofChange reachMustsWrong)

/- THE SECOND FORM. 'bulk': how many values and letters a reading holds, each counted each time it is reached (what is shared counts as often as it is met; a slice's spare places count too). A statement '..UptoSaid' is the law's where the arguments, and the package variables that the reading takes, are together of bulk at most 1048576: NARROWER than '..Said'. Prove '..Said' where nothing that the law and all that it calls make is longer than what came in: it says more and counts as full. Else prove '..UptoSaid'. A law counts once. -/
mutual
def uptoBulk {H : Type} : DataW H → Nat
  | .lit (.string bytes) => bytes.length + 1
  | .lit _ => 1
  | .nil => 1
  | .ptr d => uptoBulk d + 1
  | .slice elems spare => uptoBulkAll elems + uptoBulkAll spare + 1
  | .agg parts => uptoBulkAll parts + 1
  | .iface _ d => uptoBulk d + 1
  | .map entries => uptoBulkEntries entries + 1
  | .held _ => 1
def uptoBulkAll {H : Type} : List (DataW H) → Nat
  | [] => 0
  | d :: r => uptoBulk d + uptoBulkAll r
def uptoBulkEntries {H : Type} : List (Lit × DataW H) → Nat
  | [] => 0
  | x :: r => uptoBulkEntry x + uptoBulkEntries r
def uptoBulkEntry {H : Type} : Lit × DataW H → Nat
  | (.string bytes, d) => bytes.length + uptoBulk d + 1
  | (_, d) => uptoBulk d + 1
 end
def uptoSmall : (H : Type) → List (DataW H) → Bool := fun _ ds => decide (uptoBulkAll ds ≤ 1048576)
def OpenSpec.upto (s : _root_.Go.ChangeSpec) : _root_.Go.OpenSpec := { _root_.Go.OpenSpec.ofChange s with cond := some uptoSmall }

/-- 'reparteelaw07.ReachRings', WHERE WHAT IT READS IS OF BULK AT MOST 1048576: true; the input reads as it did. -/
def reachRingsUptoRow : OpenClaim := { program := "ythpdflpkkiabhaa", sum := "f20a9479c777aa0744b44e9cf252e928ab20d9231d748da133c4b28a2d925939", func := "repartee/reparteelaw07.ReachRings", spec := "reachRings", unfollowed := true, recurses := true, apart := false, narrowed := true }
def ReachRingsUptoSaid : Prop := reachRingsUptoRow.holds Try.pinned (OpenSpec.upto reachRingsSpec)

/-- 'reparteelaw07.ReachCloses', WHERE WHAT IT READS IS OF BULK AT MOST 1048576: true; the input reads as it did. -/
def reachClosesUptoRow : OpenClaim := { program := "ythpdflpkkiabhaa", sum := "f20a9479c777aa0744b44e9cf252e928ab20d9231d748da133c4b28a2d925939", func := "repartee/reparteelaw07.ReachCloses", spec := "reachCloses", unfollowed := true, recurses := true, apart := false, narrowed := true }
def ReachClosesUptoSaid : Prop := reachClosesUptoRow.holds Try.pinned (OpenSpec.upto reachClosesSpec)

/-- 'reparteelaw07.ReachFinds', WHERE WHAT IT READS IS OF BULK AT MOST 1048576: true; the input reads as it did. -/
def reachFindsUptoRow : OpenClaim := { program := "ythpdflpkkiabhaa", sum := "f20a9479c777aa0744b44e9cf252e928ab20d9231d748da133c4b28a2d925939", func := "repartee/reparteelaw07.ReachFinds", spec := "reachFinds", unfollowed := true, recurses := true, apart := false, narrowed := true }
def ReachFindsUptoSaid : Prop := reachFindsUptoRow.holds Try.pinned (OpenSpec.upto reachFindsSpec)

/-- 'reparteelaw07.ReachBack', WHERE WHAT IT READS IS OF BULK AT MOST 1048576: true; the input reads as it did. -/
def reachBackUptoRow : OpenClaim := { program := "ythpdflpkkiabhaa", sum := "f20a9479c777aa0744b44e9cf252e928ab20d9231d748da133c4b28a2d925939", func := "repartee/reparteelaw07.ReachBack", spec := "reachBack", unfollowed := true, recurses := true, apart := false, narrowed := true }
def ReachBackUptoSaid : Prop := reachBackUptoRow.holds Try.pinned (OpenSpec.upto reachBackSpec)

/-- 'reparteelaw07.ReachOne', WHERE WHAT IT READS IS OF BULK AT MOST 1048576: true; the input reads as it did. -/
def reachOneUptoRow : OpenClaim := { program := "ythpdflpkkiabhaa", sum := "f20a9479c777aa0744b44e9cf252e928ab20d9231d748da133c4b28a2d925939", func := "repartee/reparteelaw07.ReachOne", spec := "reachOne", unfollowed := true, recurses := true, apart := false, narrowed := true }
def ReachOneUptoSaid : Prop := reachOneUptoRow.holds Try.pinned (OpenSpec.upto reachOneSpec)

/-- 'reparteelaw07.ReachSome', WHERE WHAT IT READS IS OF BULK AT MOST 1048576: true; the input reads as it did. -/
def reachSomeUptoRow : OpenClaim := { program := "ythpdflpkkiabhaa", sum := "f20a9479c777aa0744b44e9cf252e928ab20d9231d748da133c4b28a2d925939", func := "repartee/reparteelaw07.ReachSome", spec := "reachSome", unfollowed := true, recurses := true, apart := false, narrowed := true }
def ReachSomeUptoSaid : Prop := reachSomeUptoRow.holds Try.pinned (OpenSpec.upto reachSomeSpec)

/-- 'reparteelaw07.ReachSmall', WHERE WHAT IT READS IS OF BULK AT MOST 1048576: true; the input reads as it did. -/
def reachSmallUptoRow : OpenClaim := { program := "ythpdflpkkiabhaa", sum := "f20a9479c777aa0744b44e9cf252e928ab20d9231d748da133c4b28a2d925939", func := "repartee/reparteelaw07.ReachSmall", spec := "reachSmall", unfollowed := true, recurses := true, apart := false, narrowed := true }
def ReachSmallUptoSaid : Prop := reachSmallUptoRow.holds Try.pinned (OpenSpec.upto reachSmallSpec)

/-- 'reparteelaw07.ReachWrong', WHERE WHAT IT READS IS OF BULK AT MOST 1048576: true; the input reads as it did. -/
def reachWrongUptoRow : OpenClaim := { program := "ythpdflpkkiabhaa", sum := "f20a9479c777aa0744b44e9cf252e928ab20d9231d748da133c4b28a2d925939", func := "repartee/reparteelaw07.ReachWrong", spec := "reachWrong", unfollowed := true, recurses := true, apart := false, narrowed := true }
def ReachWrongUptoSaid : Prop := reachWrongUptoRow.holds Try.pinned (OpenSpec.upto reachWrongSpec)

/-- 'reparteelaw07.ReachOnly', WHERE WHAT IT READS IS OF BULK AT MOST 1048576: true; the input reads as it did. -/
def reachOnlyUptoRow : OpenClaim := { program := "ythpdflpkkiabhaa", sum := "f20a9479c777aa0744b44e9cf252e928ab20d9231d748da133c4b28a2d925939", func := "repartee/reparteelaw07.ReachOnly", spec := "reachOnly", unfollowed := true, recurses := true, apart := false, narrowed := true }
def ReachOnlyUptoSaid : Prop := reachOnlyUptoRow.holds Try.pinned (OpenSpec.upto reachOnlySpec)

/-- 'reparteelaw07.ReachMusts', WHERE WHAT IT READS IS OF BULK AT MOST 1048576: true; the input reads as it did. -/
def reachMustsUptoRow : OpenClaim := { program := "ythpdflpkkiabhaa", sum := "f20a9479c777aa0744b44e9cf252e928ab20d9231d748da133c4b28a2d925939", func := "repartee/reparteelaw07.ReachMusts", spec := "reachMusts", unfollowed := true, recurses := true, apart := false, narrowed := true }
def ReachMustsUptoSaid : Prop := reachMustsUptoRow.holds Try.pinned (OpenSpec.upto reachMustsSpec)

end Rows
end Go.Proofs.Ythpdflpkkiabhaa
