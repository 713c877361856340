/-
  Ways to write a byte: the plain law; a builder that is read. No condition.
-/
import Derived.Test.YtoogopcaieodoaaU
import Derived.Test.YtoogopcaieodoaaRow
import Derived.Deep.DeepCutAuto
namespace Go.Proofs.Ytoogopcaieodoaa
open Go.RowKit Go.Shelf
theorem isBF_keeps {B b : Nat} {bs : List Value} {w w' : World} (h : Lib.IsBuilderF 36 5 B b bs w) (k : Keeps Non w w') : Lib.IsBuilderF 36 5 B b bs w' := by
  have one : ∀ p, Lib.BuilderAtF 36 5 B b p bs w → Lib.BuilderAtF 36 5 B b p bs w' := by
    intro p h
    obtain ⟨hB, v, hb, hown, hne⟩ := h
    have hlt : b < w.heap.size := (Array.getElem?_eq_some_iff.1 hb).1
    refine ⟨hB, v, (k.block b hlt (fun x => x)).trans hb, ⟨hown.1, ?_⟩, hne⟩
    rcases hown.2 with hn | ⟨g, cap, cur, fz, hv, hbg, hg, rest⟩
    · exact .inl hn
    · exact .inr ⟨g, cap, cur, fz, hv, hbg, (k.block g (Array.getElem?_eq_some_iff.1 hg).1 (fun x => x)).trans hg, rest⟩
  exact h.imp (one _) (one _)
theorem can_m (m : Mk) (s : ByteArray) (v : Value) (w : World) (hs : s.size ≤ 1000000) (hr : (rds m s.data.toList).1.length ≤ 1000000) (h : unqT (formsL m (rds m s.data.toList).1, (rds m s.data.toList).2.1, (rds m s.data.toList).2.2) = v) :
    Calls Try.prog 15 #[.string s, .agg #[.int .u64 m.w0, .int .u64 m.w1, .int .u64 m.w2, .int .u64 m.w3]] w fun e w' => e = .returned v ∧ Keeps Non w w' := by
  subst h
  exact canonical_any m s w hs hr
/-- A hexadecimal digit of upper case. -/
def hexU : List UInt8 := [48, 49, 50, 51, 52, 53, 54, 55, 56, 57, 65, 66, 67, 68, 69, 70]
def hX (n : Nat) : UInt8 := hexU[n]?.getD 0
theorem nib_hX : ∀ n : Nat, n < 16 → nib ((hX n).toNat : Int) = (n : Int) := by
  intro n hn
  have h : ∀ a : Fin 16, nib ((hX a.val).toNat : Int) = (a.val : Int) := by decide
  exact h ⟨n, hn⟩
theorem says_hex (m : Mk) (c x y : UInt8) (hx : nib (x.toNat : Int) = ((c.toNat / 16 : Nat) : Int)) (hy : nib (y.toNat : Int) = ((c.toNat % 16 : Nat) : Int)) : Says m c [92, 120, x, y] := by
  have hb := c.toNat_lt
  refine ⟨Nat.succ_pos _, fun t => ?_⟩
  show rdB m (92 :: 120 :: x :: y :: t) = _
  simp only [rdB, rdE, show (((92 : UInt8).toNat : Nat) : Int) = 92 from rfl, show (((120 : UInt8).toNat : Nat) : Int) = 120 from rfl, ↓reduceIte, hx, hy]
  rw [if_pos (by omega)]
  simp only [List.length_cons, List.length_nil, Prod.mk.injEq]
  exact ⟨by omega, rfl, trivial⟩
/-- A way to write a byte that is no shorter than its form. -/
def Way (m : Mk) (x : UInt8 × List UInt8) : Prop := Says m x.1 x.2 ∧ (formB m x.1).length ≤ x.2.length ∧ x.2.length ≤ 4
theorem formB_le (m : Mk) (c : UInt8) : (formB m c).length ≤ 4 := by
  have := form_size m (c.toNat : Int)
  rw [← formB_eq]
  exact this
theorem way_form (m : Mk) (c : UInt8) : Way m (c, formB m c) := ⟨says_form m c, Nat.le_refl _, formB_le m c⟩
theorem way_lo (m : Mk) (c : UInt8) : Way m (c, [92, 120, hx (c.toNat / 16), hX (c.toNat % 16)]) := by
  have hb := c.toNat_lt
  exact ⟨says_hex m c _ _ (nib_hx _ (by omega)) (nib_hX _ (Nat.mod_lt _ (by decide))), formB_le m c, Nat.le_refl _⟩
theorem way_up (m : Mk) (c : UInt8) : Way m (c, [92, 120, hX (c.toNat / 16), hx (c.toNat % 16)]) := by
  have hb := c.toNat_lt
  exact ⟨says_hex m c _ _ (nib_hX _ (by omega)) (nib_hx _ (Nat.mod_lt _ (by decide))), formB_le m c, Nat.le_refl _⟩
theorem ways_le (m : Mk) : ∀ (L : List (UInt8 × List UInt8)), (∀ x ∈ L, Way m x) → (formsL m (L.map (·.1))).length ≤ (L.flatMap (·.2)).length ∧ (L.flatMap (·.2)).length ≤ 4 * L.length
  | [], _ => by simp [formsL]
  | x :: L, h => by
    obtain ⟨h1, h2⟩ := ways_le m L fun y hy => h y (List.mem_cons_of_mem _ hy)
    obtain ⟨_, h3, h4⟩ := h x (List.mem_cons_self ..)
    rw [List.map_cons, formsL_cons, List.flatMap_cons, List.length_append, List.length_append, List.length_cons]
    omega
/-- A digit's text, cut from all of them. -/
theorem hx_cut (n : Nat) (h : n < 16) : ((⟨#[48, 49, 50, 51, 52, 53, 54, 55, 56, 57, 97, 98, 99, 100, 101, 102]⟩ : ByteArray).extract n (n + 1)).data.toList = [hx n] := by
  rw [Lib.extract_data]
  have a : ∀ n : Fin 16, (hexL.drop n.val).take (n.val + 1 - n.val) = [hx n.val] := by decide
  exact a ⟨n, h⟩
theorem hX_cut (n : Nat) (h : n < 16) : ((⟨#[48, 49, 50, 51, 52, 53, 54, 55, 56, 57, 65, 66, 67, 68, 69, 70]⟩ : ByteArray).extract n (n + 1)).data.toList = [hX n] := by
  rw [Lib.extract_data]
  have a : ∀ n : Fin 16, (hexU.drop n.val).take (n.val + 1 - n.val) = [hX n.val] := by decide
  exact a ⟨n, h⟩
theorem and15 (c : Int) (h0 : 0 ≤ c) (h1 : c ≤ 255) : bits .and .u8 c 15 = c % 16 := by
  have h : ∀ a : Fin 256, bits .and .u8 (a.val : Int) 15 = (a.val : Int) % 16 := by
    set_option maxRecDepth 100000 in decide
  have := h ⟨c.toNat, by omega⟩
  simpa only [Int.toNat_of_nonneg h0] using this
end Go.Proofs.Ytoogopcaieodoaa
