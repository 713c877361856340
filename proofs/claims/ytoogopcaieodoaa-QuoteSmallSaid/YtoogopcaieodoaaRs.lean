/-
  The walk over QuoteTells. No condition.
-/
import Derived.Test.YtoogopcaieodoaaRr
namespace Go.Proofs.Ytoogopcaieodoaa
open Go.RowKit Go.Shelf
attribute [local go_sem] onto_cell onto_frozen
theorem u8_of (c : Int) (h0 : 0 ≤ c) (h1 : c ≤ 255) : ∃ u : UInt8, (u.toNat : Int) = c := ⟨UInt8.ofNat c.toNat, by
  rw [UInt8.toNat_ofNat']
  omega⟩
theorem tells_any (s : ByteArray) (c : Int) (h0 : 0 ≤ c) (h1 : c ≤ 255) (m : Mk) (hm : Fits m) (w : World) :
    Calls Try.prog 9 #[.string s, .int .u8 c, .agg #[.int .u64 m.w0, .int .u64 m.w1, .int .u64 m.w2, .int .u64 m.w3]] w fun e w' => e = .returned (.bool true) ∧ Keeps Non w w' := by
  obtain ⟨u, hu⟩ := u8_of c h0 h1
  exact tells_l s u c hu m hm w
theorem law_tells (s : ByteArray) (c : Int) (h0 : 0 ≤ c) (h1 : c ≤ 255) (m : Mk) (hm : Fits m) (w : World) :
    Calls Try.prog 3 #[.string s, .int .u8 c, .agg #[.int .u64 m.w0, .int .u64 m.w1, .int .u64 m.w2, .int .u64 m.w3]] w fun e w' => e = .returned (.bool true) ∧ Keeps Non w w' := by
  have HT := hide (fun w => tells_any s c h0 h1 m hm w)
  clear hm
  go_enter Try.func3, Try.ntmps3
  go_wp2_with fail
  refine (HT.out _).mono ?_
  rintro e w2 ⟨rfl, hk2⟩
  have HK := hide (((Keeps.refl Non w).alloc (.cells #[.int .u64 m.w0, .int .u64 m.w1, .int .u64 m.w2, .int .u64 m.w3] 24)).then hk2)
  clear hk2
  go_wp2_with fail
  refine (awake_any _).mono ?_
  rintro e w3 ⟨rfl, hk3⟩
  go_wp2_with fail
  go_ret
  exact ⟨rfl, HK.out.then hk3⟩
theorem fits_of {a b c d : Int} (ha : (Lit.int .u64 a).wf = true) (hb : (Lit.int .u64 b).wf = true) (hc : (Lit.int .u64 c).wf = true) (hd : (Lit.int .u64 d).wf = true) : Fits ⟨a, b, c, d⟩ := by
  have a1 := u64b ha
  have b1 := u64b hb
  have c1 := u64b hc
  have d1 := u64b hd
  refine ⟨⟨a1.1, ?_⟩, ⟨b1.1, ?_⟩, ⟨c1.1, ?_⟩, ⟨d1.1, ?_⟩⟩ <;> simp only [] <;> omega
end Go.Proofs.Ytoogopcaieodoaa
