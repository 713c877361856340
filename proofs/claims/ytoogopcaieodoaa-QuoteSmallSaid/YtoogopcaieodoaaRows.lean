/-
  No cell of these rows narrows 'for every input' (looked for: loops, veiled, ifaces, maps, wideKeys, modest, calm, conditions, laid).
  DERIVED. THE GIVEN ROWS OF THIS SEAT. 6 by the template 'for every input the law returns true; each argument reads behind the call as it read before'; 0 by the template 'total and deterministic' (their statements: YtoogopcaieodoaaTotals.lean).
  GIVEN WITH THE SEED: the statements are not yours to turn. If you find one false, say at which input.
  Laid BY PROGRAM, IN A SANDBOX (cutbox-rows.mjs): the forced cells as the released guide's own fill.sh prints them over the translation 62fddb6af55fcd67… (all of the seat's roots in one cut). By AI agents, Wed Nov 11 2026. No macro, syntax, notation, axiom, sorry.
-/
import Derived.Test.YtoogopcaieodoaaChecked
import GoSem.Claim
import GoSem.ClaimJoined
import GoSem.ClaimMapViews
import Derived.JoinedTies
import Derived.KernelRfl
namespace Go.Proofs.Ytoogopcaieodoaa
/- THE CELL 'sum', in the pinned program and in every row, IS THE sha256 OF THE DUMP (.gsa) THAT YtoogopcaieodoaaProg.lean LOADS. Nothing in Lean hashes anything: it is a label: what it is worth is what the hold of that sum in a sandbox is worth. -/
noncomputable def Try.pinned : Pinned := { name := "ytoogopcaieodoaa", sum := "62fddb6af55fcd67b52783ebf68b953221572e62ea9ada4b288390b0fbb5beab", checked := Try.checked }
namespace Rows
def none {H : Type} : Left H := { results := [], args := [] }

/-- 'reparteelaw02.QuoteTells': WHATEVER THE INPUT: true; the input reads as it did. -/
def quoteTellsSpec : ChangeSpec := { name := "quoteTells", fn := fun _ => fun
  | [d1, d2, d3] => { results := [.lit (.bool true)], args := [d1, d2, d3] }
  | _ => none }
def quoteTellsRow : OpenClaim := { program := "ytoogopcaieodoaa", sum := "62fddb6af55fcd67b52783ebf68b953221572e62ea9ada4b288390b0fbb5beab", func := "repartee/reparteelaw02.QuoteTells", spec := "quoteTells", inPlace := ["internal/bytealg.IndexByteString", "internal/abi.NoEscape"], unfollowed := true, recurses := true, apart := false }
def QuoteTellsSaid : Prop := quoteTellsRow.holds Try.pinned (OpenSpec.ofChange quoteTellsSpec)

/-- ITS FALSE NEIGHBOUR: 'it returns false'. Refute it at one input. -/
def quoteTellsWrong : ChangeSpec := { name := "quoteTells", fn := fun _ => fun
  | [d1, d2, d3] => { results := [.lit (.bool false)], args := [d1, d2, d3] }
  | _ => none }
def QuoteTellsWrongFalsely : Prop := quoteTellsRow.holds Try.pinned (OpenSpec.ofChange quoteTellsWrong)

/-- 'reparteelaw02.QuoteTexts': WHATEVER THE INPUT: true; the input reads as it did. -/
def quoteTextsSpec : ChangeSpec := { name := "quoteTexts", fn := fun _ => fun
  | [d1, d2, d3] => { results := [.lit (.bool true)], args := [d1, d2, d3] }
  | _ => none }
def quoteTextsRow : OpenClaim := { program := "ytoogopcaieodoaa", sum := "62fddb6af55fcd67b52783ebf68b953221572e62ea9ada4b288390b0fbb5beab", func := "repartee/reparteelaw02.QuoteTexts", spec := "quoteTexts", inPlace := ["internal/bytealg.IndexByteString", "internal/abi.NoEscape"], unfollowed := true, recurses := true, apart := false }
def QuoteTextsSaid : Prop := quoteTextsRow.holds Try.pinned (OpenSpec.ofChange quoteTextsSpec)

/-- ITS FALSE NEIGHBOUR: 'it returns false'. Refute it at one input. -/
def quoteTextsWrong : ChangeSpec := { name := "quoteTexts", fn := fun _ => fun
  | [d1, d2, d3] => { results := [.lit (.bool false)], args := [d1, d2, d3] }
  | _ => none }
def QuoteTextsWrongFalsely : Prop := quoteTextsRow.holds Try.pinned (OpenSpec.ofChange quoteTextsWrong)

/-- 'reparteelaw02.QuoteCanonical': WHATEVER THE INPUT: true; the input reads as it did. -/
def quoteCanonicalSpec : ChangeSpec := { name := "quoteCanonical", fn := fun _ => fun
  | [d1, d2, d3] => { results := [.lit (.bool true)], args := [d1, d2, d3] }
  | _ => none }
def quoteCanonicalRow : OpenClaim := { program := "ytoogopcaieodoaa", sum := "62fddb6af55fcd67b52783ebf68b953221572e62ea9ada4b288390b0fbb5beab", func := "repartee/reparteelaw02.QuoteCanonical", spec := "quoteCanonical", inPlace := ["internal/bytealg.IndexByteString", "internal/abi.NoEscape"], unfollowed := true, recurses := true, apart := false }
def QuoteCanonicalSaid : Prop := quoteCanonicalRow.holds Try.pinned (OpenSpec.ofChange quoteCanonicalSpec)

/-- ITS FALSE NEIGHBOUR: 'it returns false'. Refute it at one input. -/
def quoteCanonicalWrong : ChangeSpec := { name := "quoteCanonical", fn := fun _ => fun
  | [d1, d2, d3] => { results := [.lit (.bool false)], args := [d1, d2, d3] }
  | _ => none }
def QuoteCanonicalWrongFalsely : Prop := quoteCanonicalRow.holds Try.pinned (OpenSpec.ofChange quoteCanonicalWrong)

/-- 'reparteelaw02.QuoteBack': WHATEVER THE INPUT: true; the input reads as it did. -/
def quoteBackSpec : ChangeSpec := { name := "quoteBack", fn := fun _ => fun
  | [d1, d2, d3] => { results := [.lit (.bool true)], args := [d1, d2, d3] }
  | _ => none }
def quoteBackRow : OpenClaim := { program := "ytoogopcaieodoaa", sum := "62fddb6af55fcd67b52783ebf68b953221572e62ea9ada4b288390b0fbb5beab", func := "repartee/reparteelaw02.QuoteBack", spec := "quoteBack", inPlace := ["internal/bytealg.IndexByteString", "internal/abi.NoEscape"], unfollowed := true, recurses := true, apart := false }
def QuoteBackSaid : Prop := quoteBackRow.holds Try.pinned (OpenSpec.ofChange quoteBackSpec)

/-- ITS FALSE NEIGHBOUR: 'it returns false'. Refute it at one input. -/
def quoteBackWrong : ChangeSpec := { name := "quoteBack", fn := fun _ => fun
  | [d1, d2, d3] => { results := [.lit (.bool false)], args := [d1, d2, d3] }
  | _ => none }
def QuoteBackWrongFalsely : Prop := quoteBackRow.holds Try.pinned (OpenSpec.ofChange quoteBackWrong)

/-- 'reparteelaw02.QuoteWrong': WHATEVER THE INPUT: true; the input reads as it did. -/
def quoteWrongSpec : ChangeSpec := { name := "quoteWrong", fn := fun _ => fun
  | [d1, d2, d3, d4] => { results := [.lit (.bool true)], args := [d1, d2, d3, d4] }
  | _ => none }
def quoteWrongRow : OpenClaim := { program := "ytoogopcaieodoaa", sum := "62fddb6af55fcd67b52783ebf68b953221572e62ea9ada4b288390b0fbb5beab", func := "repartee/reparteelaw02.QuoteWrong", spec := "quoteWrong", inPlace := ["internal/bytealg.IndexByteString", "internal/abi.NoEscape"], unfollowed := true, recurses := true, apart := false }
def QuoteWrongSaid : Prop := quoteWrongRow.holds Try.pinned (OpenSpec.ofChange quoteWrongSpec)

/-- ITS FALSE NEIGHBOUR: 'it returns false'. Refute it at one input. -/
def quoteWrongWrong : ChangeSpec := { name := "quoteWrong", fn := fun _ => fun
  | [d1, d2, d3, d4] => { results := [.lit (.bool false)], args := [d1, d2, d3, d4] }
  | _ => none }
def QuoteWrongWrongFalsely : Prop := quoteWrongRow.holds Try.pinned (OpenSpec.ofChange quoteWrongWrong)

/-- 'reparteelaw02.QuoteSmall': WHATEVER THE INPUT: true; the input reads as it did. -/
def quoteSmallSpec : ChangeSpec := { name := "quoteSmall", fn := fun _ => fun
  | [] => { results := [.lit (.bool true)], args := [] }
  | _ => none }
def quoteSmallRow : OpenClaim := { program := "ytoogopcaieodoaa", sum := "62fddb6af55fcd67b52783ebf68b953221572e62ea9ada4b288390b0fbb5beab", func := "repartee/reparteelaw02.QuoteSmall", spec := "quoteSmall", inPlace := ["internal/bytealg.IndexByteString", "internal/abi.NoEscape"], unfollowed := true, recurses := true, apart := false }
def QuoteSmallSaid : Prop := quoteSmallRow.holds Try.pinned (OpenSpec.ofChange quoteSmallSpec)

/-- ITS FALSE NEIGHBOUR: 'it returns false'. Refute it at one input. -/
def quoteSmallWrong : ChangeSpec := { name := "quoteSmall", fn := fun _ => fun
  | [] => { results := [.lit (.bool false)], args := [] }
  | _ => none }
def QuoteSmallWrongFalsely : Prop := quoteSmallRow.holds Try.pinned (OpenSpec.ofChange quoteSmallWrong)

/- THE SECOND FORM. 'bulk': how many values and letters a reading holds, each counted each time it is reached (what is shared counts as often as it is met; a slice's spare places count too). A statement '..UptoSaid' is the law's where the arguments, and the package variables that the reading takes, are together of bulk at most 1048576: NARROWER than '..Said'. Prove '..Said' where nothing that the law and all that it calls make is longer than what came in: it says more and counts as full. Else prove '..UptoSaid'. A law counts once. -/
mutual
def uptoBulk {H : Type} : DataW H → Nat
  | .lit (.string bytes) => bytes.length + 1
  | .lit _ => 1
  | .nil => 1
  | .ptr d => uptoBulk d + 1
  | .slice elems spare => uptoBulkAll elems + uptoBulkAll spare + 1
  | .agg parts => uptoBulkAll parts + 1
  | .iface _ d => uptoBulk d + 1
  | .map entries => uptoBulkEntries entries + 1
  | .held _ => 1
def uptoBulkAll {H : Type} : List (DataW H) → Nat
  | [] => 0
  | d :: r => uptoBulk d + uptoBulkAll r
def uptoBulkEntries {H : Type} : List (Lit × DataW H) → Nat
  | [] => 0
  | x :: r => uptoBulkEntry x + uptoBulkEntries r
def uptoBulkEntry {H : Type} : Lit × DataW H → Nat
  | (.string bytes, d) => bytes.length + uptoBulk d + 1
  | (_, d) => uptoBulk d + 1
 end
def uptoSmall : (H : Type) → List (DataW H) → Bool := fun _ ds => decide (uptoBulkAll ds ≤ 1048576)
def OpenSpec.upto (s : _root_.Go.ChangeSpec) : _root_.Go.OpenSpec := { _root_.Go.OpenSpec.ofChange s with cond := some uptoSmall }

/-- 'reparteelaw02.QuoteTells', WHERE WHAT IT READS IS OF BULK AT MOST 1048576: true; the input reads as it did. -/
def quoteTellsUptoRow : OpenClaim := { program := "ytoogopcaieodoaa", sum := "62fddb6af55fcd67b52783ebf68b953221572e62ea9ada4b288390b0fbb5beab", func := "repartee/reparteelaw02.QuoteTells", spec := "quoteTells", inPlace := ["internal/bytealg.IndexByteString", "internal/abi.NoEscape"], unfollowed := true, recurses := true, apart := false, narrowed := true }
def QuoteTellsUptoSaid : Prop := quoteTellsUptoRow.holds Try.pinned (OpenSpec.upto quoteTellsSpec)

/-- 'reparteelaw02.QuoteTexts', WHERE WHAT IT READS IS OF BULK AT MOST 1048576: true; the input reads as it did. -/
def quoteTextsUptoRow : OpenClaim := { program := "ytoogopcaieodoaa", sum := "62fddb6af55fcd67b52783ebf68b953221572e62ea9ada4b288390b0fbb5beab", func := "repartee/reparteelaw02.QuoteTexts", spec := "quoteTexts", inPlace := ["internal/bytealg.IndexByteString", "internal/abi.NoEscape"], unfollowed := true, recurses := true, apart := false, narrowed := true }
def QuoteTextsUptoSaid : Prop := quoteTextsUptoRow.holds Try.pinned (OpenSpec.upto quoteTextsSpec)

/-- 'reparteelaw02.QuoteCanonical', WHERE WHAT IT READS IS OF BULK AT MOST 1048576: true; the input reads as it did. -/
def quoteCanonicalUptoRow : OpenClaim := { program := "ytoogopcaieodoaa", sum := "62fddb6af55fcd67b52783ebf68b953221572e62ea9ada4b288390b0fbb5beab", func := "repartee/reparteelaw02.QuoteCanonical", spec := "quoteCanonical", inPlace := ["internal/bytealg.IndexByteString", "internal/abi.NoEscape"], unfollowed := true, recurses := true, apart := false, narrowed := true }
def QuoteCanonicalUptoSaid : Prop := quoteCanonicalUptoRow.holds Try.pinned (OpenSpec.upto quoteCanonicalSpec)

/-- 'reparteelaw02.QuoteBack', WHERE WHAT IT READS IS OF BULK AT MOST 1048576: true; the input reads as it did. -/
def quoteBackUptoRow : OpenClaim := { program := "ytoogopcaieodoaa", sum := "62fddb6af55fcd67b52783ebf68b953221572e62ea9ada4b288390b0fbb5beab", func := "repartee/reparteelaw02.QuoteBack", spec := "quoteBack", inPlace := ["internal/bytealg.IndexByteString", "internal/abi.NoEscape"], unfollowed := true, recurses := true, apart := false, narrowed := true }
def QuoteBackUptoSaid : Prop := quoteBackUptoRow.holds Try.pinned (OpenSpec.upto quoteBackSpec)

/-- 'reparteelaw02.QuoteWrong', WHERE WHAT IT READS IS OF BULK AT MOST 1048576: true; the input reads as it did. -/
def quoteWrongUptoRow : OpenClaim := { program := "ytoogopcaieodoaa", sum := "62fddb6af55fcd67b52783ebf68b953221572e62ea9ada4b288390b0fbb5beab", func := "repartee/reparteelaw02.QuoteWrong", spec := "quoteWrong", inPlace := ["internal/bytealg.IndexByteString", "internal/abi.NoEscape"], unfollowed := true, recurses := true, apart := false, narrowed := true }
def QuoteWrongUptoSaid : Prop := quoteWrongUptoRow.holds Try.pinned (OpenSpec.upto quoteWrongSpec)

/-- 'reparteelaw02.QuoteSmall', WHERE WHAT IT READS IS OF BULK AT MOST 1048576: true; the input reads as it did. -/
def quoteSmallUptoRow : OpenClaim := { program := "ytoogopcaieodoaa", sum := "62fddb6af55fcd67b52783ebf68b953221572e62ea9ada4b288390b0fbb5beab", func := "repartee/reparteelaw02.QuoteSmall", spec := "quoteSmall", inPlace := ["internal/bytealg.IndexByteString", "internal/abi.NoEscape"], unfollowed := true, recurses := true, apart := false, narrowed := true }
def QuoteSmallUptoSaid : Prop := quoteSmallUptoRow.holds Try.pinned (OpenSpec.upto quoteSmallSpec)

end Rows
end Go.Proofs.Ytoogopcaieodoaa
