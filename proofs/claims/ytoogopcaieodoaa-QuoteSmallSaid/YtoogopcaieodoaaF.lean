/-
  Walks over layer 2: Quote. No condition.
-/
import Derived.Test.YtoogopcaieodoaaE
namespace Go.Proofs.Ytoogopcaieodoaa
open Go.RowKit
attribute [local go_sem] onto_cell onto_frozen
/-- The set with the quotation mark alone. -/
def qm : Mk := setOf [34]
theorem of_q (b cap : Nat) (w : World) (h : Blk w b [.int .u8 34] 5) : Calls Try.prog 24 #[.slice (some ⟨b, 0, none⟩) 1 cap] w fun e w' => e = .returned (.agg #[.int .u64 qm.w0, .int .u64 qm.w1, .int .u64 qm.w2, .int .u64 qm.w3]) ∧ Keeps Non w w' :=
  of_any b cap [34] w h (fun i hi => by
    obtain rfl : i = 0 := by simpa using hi
    decide) (by decide)
theorem quote_any (s : ByteArray) (w : World) (hs : s.size ≤ 1000000) :
    Calls Try.prog 11 #[.string s] w fun e w' => e = .returned (.string (⟨#[34]⟩ ++ formS qm s ++ ⟨#[34]⟩)) ∧ Keeps Non w w' := by
  have HB := hide (fun w => bytes_any qm s w hs)
  have HQ := hide (of_q w.heap.size 1 _ (Blk.new w [.int .u8 34] 5))
  have hz : (formS qm s).size ≤ 4 * s.size := formsL_length qm s.data.toList
  have e1 : ¬ 9223372036854775807 < 1 + (formS qm s).size := by omega
  have e2 : ¬ 9223372036854775807 < 1 + (formS qm s).size + 1 := by omega
  clear hs hz
  unfold setV at HB
  go_enter Try.func11, Try.ntmps11
  go_wp2_with (first | (go_at_call 24; refine HQ.out.mono ?_; rintro e w2 ⟨rfl, hk2⟩) | (go_at_call 18; refine (HB.out _).mono ?_; rintro e w3 ⟨rfl, hk3⟩))
  go_ret
  exact ⟨rfl, (((Keeps.refl _ _).alloc _).then hk2).then hk3⟩
end Go.Proofs.Ytoogopcaieodoaa
