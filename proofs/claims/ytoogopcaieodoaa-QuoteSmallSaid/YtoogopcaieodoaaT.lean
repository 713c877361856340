/-
  Contracts over lists; counts; the walk over QuoteBack. No condition.
-/
import Derived.Test.YtoogopcaieodoaaS
import Derived.Test.YtoogopcaieodoaaR
namespace Go.Proofs.Ytoogopcaieodoaa
open Go.RowKit Go.Shelf
attribute [local go_sem] onto_cell onto_frozen
theorem bytes_l (m : Mk) (b s : ByteArray) (w : World) (hb : b.size ≤ 1000000) (h : s.data.toList = formsL m b.data.toList) :
    Calls Try.prog 18 #[.string b, .agg #[.int .u64 m.w0, .int .u64 m.w1, .int .u64 m.w2, .int .u64 m.w3]] w fun e w' => e = .returned (.string s) ∧ Keeps Non w w' :=
  (bytes_any m b w hb).mono fun e w' ⟨he, hk⟩ => ⟨he.trans (by
    have : formS m b = s := by
      apply ByteArray.ext
      apply Array.toList_inj.1
      rw [h]
      rfl
    rw [this]), hk⟩
theorem byte_l (m : Mk) (c : UInt8) (d : Int) (o : ByteArray) (w : World) (hd : (c.toNat : Int) = d) (h : o.data.toList = formB m c) :
    Calls Try.prog 14 #[.int .u8 d, .agg #[.int .u64 m.w0, .int .u64 m.w1, .int .u64 m.w2, .int .u64 m.w3]] w fun e w' => e = .returned (.string o) ∧ Keeps Non w w' := by
  subst hd
  refine (byte_any m (c.toNat : Int) w (u8_bd c).1 (u8_bd c).2).mono fun e w' ⟨he, hk⟩ => ⟨he.trans ?_, hk⟩
  have : form m (c.toNat : Int) = o := by
    apply ByteArray.ext
    apply Array.toList_inj.1
    rw [h, formB_eq]
  rw [this]
theorem rds_l (m : Mk) (s : ByteArray) (v : Value) (w : World) (hs : s.size ≤ 1000000) (h : unqT (rds m s.data.toList) = v) :
    Calls Try.prog 19 #[.string s, .agg #[.int .u64 m.w0, .int .u64 m.w1, .int .u64 m.w2, .int .u64 m.w3]] w fun e w' => e = .returned v ∧ Keeps Non w w' := by
  subst h
  exact readBytes_any m s w hs
theorem rb_l (m : Mk) (s : ByteArray) (v : Value) (w : World) (h : rdT (rdB m s.data.toList) = v) :
    Calls Try.prog 20 #[.string s, .agg #[.int .u64 m.w0, .int .u64 m.w1, .int .u64 m.w2, .int .u64 m.w3]] w fun e w' => e = .returned v ∧ Keeps Non w w' := by
  subst h
  exact rb_any m s w
theorem prefix_l (s p : ByteArray) (v : Bool) (w : World) (h : Lib.hasPrefix s.data.toList p.data.toList = v) :
    Calls Try.prog 21 #[.string s, .string p] w fun e w' => e = .returned (.bool v) ∧ w = w' := by
  subst h
  exact (Try.strings_HasPrefix s p w).mono fun _ _ ⟨a, b⟩ => ⟨a, b.symm⟩
theorem low_letter (c : Int) (h0 : 0 ≤ c) (h1 : c ≤ 126) : letterB c = (decide (65 ≤ c) && decide (c ≤ 90) || decide (97 ≤ c) && decide (c ≤ 122)) := by
  have h : ∀ a : Fin 127, letterB (a.val : Int) = (decide (65 ≤ (a.val : Int)) && decide ((a.val : Int) ≤ 90) || decide (97 ≤ (a.val : Int)) && decide ((a.val : Int) ≤ 122)) := by decide
  have := h ⟨c.toNat, by omega⟩
  simpa only [Int.toNat_of_nonneg h0] using this
set_option maxHeartbeats 4000000 in
theorem counts_any (m : Mk) (c : Int) (w : World) (h0 : 0 ≤ c) (h1 : c ≤ 255) :
    Calls Try.prog 22 #[.agg #[.int .u64 m.w0, .int .u64 m.w1, .int .u64 m.w2, .int .u64 m.w3], .int .u8 c] w fun e w' => e = .returned (.bool (isMk m c)) ∧ Keeps Non w w' := by
  obtain ⟨b, hb⟩ : ∃ b, has m c = b := ⟨_, rfl⟩
  have HC := hide (fun w => has_at m c b w h0 h1 hb)
  have hM : Hid (isMk m c = (b && decide (32 ≤ c) && decide (c ≤ 126) && !(decide (65 ≤ c) && decide (c ≤ 90) || decide (97 ≤ c) && decide (c ≤ 122)) && !(decide (48 ≤ c) && decide (c ≤ 57)))) := by
    by_cases hc : c ≤ 126
    · simp only [Hid, isMk, digitB, hb, low_letter c h0 hc]
    · simp [Hid, isMk, hc]
  clear hb
  cases b with
  | false =>
    go_enter Try.func22, Try.ntmps22
    go_wp2_with (go_at_call 39; refine (HC.out _).mono ?_; rintro e w' ⟨rfl, hk⟩)
    all_goals
      go_ret
      exact ⟨ret_bool (by rw [hM.out]; simp), ((Keeps.refl _ _).alloc _).then (by assumption)⟩
  | true =>
    go_enter Try.func22, Try.ntmps22
    go_wp2_with (go_at_call 39; refine (HC.out _).mono ?_; rintro e w' ⟨rfl, hk⟩)
    all_goals
      go_ret
      refine ⟨ret_bool ?_, ((Keeps.refl _ _).alloc _).then (by assumption)⟩
      rw [hM.out]
      first | (simp [*]; done) | (simp [*]; omega) | (rw [Bool.eq_iff_iff]; simp; omega)
theorem counts_at (m : Mk) (c : Int) (v : Bool) (w : World) (h0 : 0 ≤ c) (h1 : c ≤ 255) (hv : isMk m c = v) :
    Calls Try.prog 22 #[.agg #[.int .u64 m.w0, .int .u64 m.w1, .int .u64 m.w2, .int .u64 m.w3], .int .u8 c] w fun e w' => e = .returned (.bool v) ∧ Keeps Non w w' := by
  subst hv
  exact counts_any m c w h0 h1
/-- As wp_region_onto, begun anywhere on the way. -/
theorem wp_region_onto2 {P : Program} {id : Nat} {Q : Exit → Act → World → Prop} {a : Act} {w u0 : World} {l : List Oper} (hm : P.follows .mixedOrders = true) (hB : Region.lexB .any l.toArray = true)
    (h : wpQuiet P l.toArray (fun w' => ∃ u, w' = onto w u) (fun a' => ∀ w', (∃ u, w' = onto w u) → Q .normal a' w') l a) : (Code.region id l.toArray true).wp P Q a (onto w u0) :=
  wp_region_quiet (C := fun w' => ∃ u, w' = onto w u) hm hB ⟨(onto w u0).drew, (onto_of (onto_keeps w u0).drew).symm⟩ (by simpa using h)
end Go.Proofs.Ytoogopcaieodoaa
