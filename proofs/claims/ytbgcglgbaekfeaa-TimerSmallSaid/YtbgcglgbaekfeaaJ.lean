/-
  Walks over layer 34: Made. No condition.
-/
import Derived.Test.YtbgcglgbaekfeaaI
import Derived.Test.YtbgcglgbaekfeaaRow
namespace Go.Proofs.Ytbgcglgbaekfeaa
open Go.RowKit
attribute [local go_sem] onto_cell onto_frozen
/-- Timeouts made of bytes. -/
def mk1 (z : Int) : Int := 1 + z % 30
def made (zs : List Int) : List Int := (zs.take 12).map mk1
theorem mk1_bd {z : Int} : 1 ≤ mk1 z ∧ mk1 z ≤ 30 := by unfold mk1; omega
theorem made_len (zs : List Int) : (made zs).length ≤ 12 := by simp [made]; omega
theorem made_chk (zs : List Int) : chk (made zs) = 0 := by
  refine chk_good (by have := made_len zs; omega) (fun i hi => ?_)
  rw [getD_at hi]
  simp only [made, List.getElem_map]
  have := @mk1_bd ((zs.take 12)[i]'(by simpa [made] using hi))
  omega
theorem made_bd (zs : List Int) : ∀ x ∈ made zs, 1 ≤ x ∧ x ≤ 30 := by
  intro x hx
  obtain ⟨z, _, rfl⟩ := List.mem_map.1 hx
  exact mk1_bd
/-- The first k. -/
def madeK (zs : List Int) (k : Nat) : List Int := (zs.take k).map mk1
theorem madeK_succ {zs : List Int} {k : Nat} (h : k < zs.length) : madeK zs (k + 1) = madeK zs k ++ [mk1 (zs.getD k 0)] := by
  unfold madeK
  rw [List.take_succ_eq_append_getElem h, List.map_append, getD_at h]
  rfl
theorem madeK_end {zs : List Int} {m : Nat} (h : m = min zs.length 12) : madeK zs m = made zs := by
  unfold madeK made
  subst h
  by_cases hl : zs.length ≤ 12
  · rw [Nat.min_eq_left hl, List.take_of_length_le (Nat.le_refl _), List.take_of_length_le hl]
  · rw [Nat.min_eq_right (by omega)]
set_option maxHeartbeats 2000000 in
theorem made_any (a : Option Addr) (n cap : Nat) (zs : List Int) (w : World) (h : Byts w a n zs) (hr : n ≤ cap ∧ cap ≤ 9223372036854775807) (h0 : a = none → cap = 0) :
    Calls Try.prog 11 #[.slice a n cap] w fun e w' => ∃ a' n' c', e = .returned (.slice a' n' c') ∧ Ints w' a' n' (made zs) ∧ Keeps Non w w' := by
  obtain ⟨i0, hi, hz0, hz1, hz2⟩ := info_parts Tm.info3
  have hbig := h.big
  have HB := hide h
  have hlen := hide h.len
  obtain ⟨r1, r2⟩ := hr
  clear h
  cases a with
  | none =>
    have : cap = 0 := h0 rfl
    subst this
    have : n = 0 := by omega
    subst this
    go_enter Try.func11, Try.ntmps11
    go_wp2_with fail
    go_loopw [12, 3] (fun i v wr => ∃ k : Nat, k ≤ 0 ∧ i = .int .i64 k ∧ wr.ownsRow w.heap.size 3 1 v k ((madeK zs k).map (Value.int .i64)) ∧ Keeps Non w wr) (fun i _ _ => 0 - (intOf i).toNat)
    case atStart => exact ⟨0, Nat.zero_le _, rfl, World.ownsRow_nil _ _ _ _, Keeps.refl _ _⟩
    case round =>
      obtain ⟨k, hk, rfl, hown, hkw⟩ := hrel
      by_cases hlt : k < 0
      · omega
      · have hkm : k = 0 := by omega
        subst hkm
        have HG := hide (And.intro hown hkw)
        clear hown hkw
        go_wp2
        go_ret
        obtain ⟨hown, hkw⟩ := HG.out
        rw [madeK_end (by rw [hlen.out]; omega)] at hown
        obtain ⟨a', c', rfl, hI⟩ := ints_of_owns hown (by omega)
        exact ⟨a', _, c', rfl, hI, hkw⟩
  | some ad =>
    by_cases h12 : (12 : Int) < (n : Int)
    · go_enter Try.func11, Try.ntmps11
      go_wp2_with fail
      go_loopw [12, 3] (fun i v wr => ∃ k : Nat, k ≤ 12 ∧ i = .int .i64 k ∧ wr.ownsRow w.heap.size 3 1 v k ((madeK zs k).map (Value.int .i64)) ∧ Keeps Non w wr) (fun i _ _ => 12 - (intOf i).toNat)
      case atStart => exact ⟨0, Nat.zero_le _, rfl, World.ownsRow_nil _ _ _ _, Keeps.refl _ _⟩
      case round =>
        obtain ⟨k, hk, rfl, hown, hkw⟩ := hrel
        by_cases hlt : k < 12
        · obtain ⟨b, off, hab, hb, hc⟩ := (HB.out.non hkw).at (by omega)
          cases hab
          have ck := hc k (by omega)
          have hbd := HB.out.bd k
          obtain ⟨x, hx⟩ : ∃ x, zs.getD k 0 = x := ⟨_, rfl⟩
          rw [hx] at ck hbd
          obtain ⟨hb0, hb1⟩ := hbd
          have HX := hide hx
          have HO := hide hown
          have HK := hide hkw
          have hkn : (k : Int) < (n : Int) := by omega
          clear hx hc hown hkw
          go_wp2_with (at_builtin; refine wpList_append_own _ rfl _ _ 22 rfl w.heap.size 3 i0 (.int .i64 0) 1 8 Try.underlying22 hi hz0 hz1 hz2 rfl (by decide) _ k _ rfl (owns_keeps HO.out ((Keeps.refl Non _).alloc _) (fun _ _ x => x)) ⟨wr.heap.size, 0, none⟩ 1 1 [.int .i64 (1 + x % 30)] rfl ?qc1 ?qc2 ?qc3 ?qc4 ?qc5 ?qc6 ?_)
          case qc1 => rfl
          case qc2 =>
            intro j u hj
            have hj0 : j = 0 := by
              have := (List.getElem?_eq_some_iff.1 hj).1
              simpa using this
            subst hj0
            rw [Addr.add_lit]
            have := (Blk.newAt wr [.int .i64 (1 + x % 30)] 3 rfl).cell 0
            simp at hj
            subst hj
            exact this
          case qc3 => intro u hu; simp at hu; subst hu; rfl
          case qc4 => unfold maxLen; omega
          case qc5 => omega
          case qc6 => simp; have := HK.out.size; omega
          intro v' w1 hown hgrow hnil
          have HG := hide (And.intro hown hgrow)
          clear hown hgrow hnil
          go_wp2
          go_roundw
          case rel =>
            obtain ⟨hown, hgrow⟩ := HG.out
            refine ⟨k + 1, by omega, by go_num, ?_, keeps_grown (HK.out.alloc _) hgrow (fun g hg => .inr (own_ge HO.out g hg))⟩
            rw [madeK_succ (by rw [hlen.out]; omega), HX.out, List.map_append]
            exact hown
          case measure => simp [intOf]; omega
        · have hkm : k = 12 := by omega
          subst hkm
          have HG := hide (And.intro hown hkw)
          clear hown hkw
          go_wp2
          go_ret
          obtain ⟨hown, hkw⟩ := HG.out
          rw [madeK_end (by rw [hlen.out]; omega)] at hown
          obtain ⟨a', c', rfl, hI⟩ := ints_of_owns hown (by omega)
          exact ⟨a', _, c', rfl, hI, hkw⟩
    · go_enter Try.func11, Try.ntmps11
      go_wp2_with fail
      all_goals
        go_loopw [12, 3] (fun i v wr => ∃ k : Nat, k ≤ n ∧ i = .int .i64 k ∧ wr.ownsRow w.heap.size 3 1 v k ((madeK zs k).map (Value.int .i64)) ∧ Keeps Non w wr) (fun i _ _ => n - (intOf i).toNat)
        case atStart => exact ⟨0, Nat.zero_le _, rfl, World.ownsRow_nil _ _ _ _, Keeps.refl _ _⟩
        case round =>
          obtain ⟨k, hk, rfl, hown, hkw⟩ := hrel
          by_cases hlt : k < n
          · obtain ⟨b, off, hab, hb, hc⟩ := (HB.out.non hkw).at (by omega)
            cases hab
            have ck := hc k (by omega)
            have hbd := HB.out.bd k
            obtain ⟨x, hx⟩ : ∃ x, zs.getD k 0 = x := ⟨_, rfl⟩
            rw [hx] at ck hbd
            obtain ⟨hb0, hb1⟩ := hbd
            have HX := hide hx
            have HO := hide hown
            have HK := hide hkw
            have hkn : (k : Int) < (n : Int) := by omega
            clear hx hc hown hkw
            go_wp2_with (at_builtin; refine wpList_append_own _ rfl _ _ 22 rfl w.heap.size 3 i0 (.int .i64 0) 1 8 Try.underlying22 hi hz0 hz1 hz2 rfl (by decide) _ k _ rfl (owns_keeps HO.out ((Keeps.refl Non _).alloc _) (fun _ _ x => x)) ⟨wr.heap.size, 0, none⟩ 1 1 [.int .i64 (1 + x % 30)] rfl ?qc1 ?qc2 ?qc3 ?qc4 ?qc5 ?qc6 ?_)
            case qc1 => rfl
            case qc2 =>
              intro j u hj
              have hj0 : j = 0 := by
                have := (List.getElem?_eq_some_iff.1 hj).1
                simpa using this
              subst hj0
              rw [Addr.add_lit]
              have := (Blk.newAt wr [.int .i64 (1 + x % 30)] 3 rfl).cell 0
              simp at hj
              subst hj
              exact this
            case qc3 => intro u hu; simp at hu; subst hu; rfl
            case qc4 => unfold maxLen; omega
            case qc5 => omega
            case qc6 => simp; have := HK.out.size; omega
            intro v' w1 hown hgrow hnil
            have HG := hide (And.intro hown hgrow)
            clear hown hgrow hnil
            go_wp2
            go_roundw
            case rel =>
              obtain ⟨hown, hgrow⟩ := HG.out
              refine ⟨k + 1, by omega, by go_num, ?_, keeps_grown (HK.out.alloc _) hgrow (fun g hg => .inr (own_ge HO.out g hg))⟩
              rw [madeK_succ (by rw [hlen.out]; omega), HX.out, List.map_append]
              exact hown
            case measure => simp [intOf]; omega
          · have hkm : k = n := by omega
            subst hkm
            have HG := hide (And.intro hown hkw)
            clear hown hkw
            go_wp2
            go_ret
            obtain ⟨hown, hkw⟩ := HG.out
            rw [madeK_end (by rw [hlen.out]; omega)] at hown
            obtain ⟨a', c', rfl, hI⟩ := ints_of_owns hown (by omega)
            exact ⟨a', _, c', rfl, hI, hkw⟩
end Go.Proofs.Ytbgcglgbaekfeaa
