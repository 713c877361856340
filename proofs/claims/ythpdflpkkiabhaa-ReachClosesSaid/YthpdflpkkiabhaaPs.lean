/-
  ReachCloses' own function: up to eight bytes, as points. No condition.
-/
import Derived.Test.YthpdflpkkiabhaaCl
import Derived.Test.YthpdflpkkiabhaaCp
import Derived.Test.YthpdflpkkiabhaaMa
namespace Go.Proofs.Ythpdflpkkiabhaa
open Go.RowKit
attribute [local go_sem] onto_cell onto_frozen
set_option linter.unusedVariables false
/-- The points that up to eight bytes are. -/
def ptsL (N : Nat) (zs : List Int) : List Int := (zs.take 8).map (fun x => x % (N : Int))
theorem ptsL_length (N : Nat) (zs : List Int) : (ptsL N zs).length = min 8 zs.length := by simp [ptsL]
theorem ptsL_in {N : Nat} (h : 0 < N) (zs : List Int) : ∀ x ∈ ptsL N zs, 0 ≤ x ∧ x < (N : Int) := fun x hx => by
  obtain ⟨y, _, rfl⟩ := List.mem_map.1 hx
  exact ⟨Int.emod_nonneg _ (by omega), Int.emod_lt_of_pos _ (by omega)⟩
theorem ptsL_at {N : Nat} {zs : List Int} {i : Nat} (h : i < min 8 zs.length) : (ptsL N zs).getD i 0 = zs.getD i 0 % (N : Int) := by
  rw [getD_num (by rw [ptsL_length]; exact h)]
  unfold ptsL
  rw [List.getElem_map, List.getElem_take, getD_num (by omega)]
theorem take_snoc {xs : List Int} {k : Nat} (h : k < xs.length) : xs.take (k + 1) = xs.take k ++ [xs.getD k 0] := by
  rw [List.take_succ_eq_append_getElem h, getD_num h]
set_option maxRecDepth 100000 in
set_option maxHeartbeats 4000000 in
theorem points_l (a : Option Addr) (m cap : Nat) (zs : List Int) (C N cn : Nat) (nx : Option Addr) (w : World) (h : Byts w a m zs) (hroom : m ≤ cap ∧ cap ≤ 9223372036854775807) (hnil : a = none → cap = 0) (hC : Blk w C [.slice nx N cn] 23) (hN : 0 < N ∧ N ≤ 100000) :
    Calls Try.prog 18 #[.slice a m cap, .pointer (some ⟨C, 0, none⟩)] w fun e w' => ∃ v, e = .returned v ∧ OwnI w w' v (ptsL N zs) := by
  obtain ⟨i0, hi, hz0, hz1, hz2⟩ := info3_parts
  have hzl := h.len
  have HX := hide h
  have HC := hide hC
  obtain ⟨lim, hlim⟩ : ∃ lim, min 8 m = lim := ⟨_, rfl⟩
  have HPl : Hid ((ptsL N zs).length = lim) := by show _ = _; rw [ptsL_length, hzl, hlim]
  have HPa := hide (fun i (hi : i < lim) => ptsL_at (N := N) (zs := zs) (i := i) (by rw [hzl]; omega))
  have hlm : lim ≤ m ∧ lim ≤ 8 ∧ lim ≤ cap := by omega
  have hmin : min (m : Int) 8 = (lim : Int) := by omega
  have l0 : (0 : Int) ≤ (lim : Int) := by omega
  have l1 : (lim : Int) ≤ (cap : Int) := by omega
  have c7 := hC.cell 0
  simp only [List.getElem?_cons_zero] at c7
  have l7 := hC.lt
  obtain ⟨P, hP⟩ : ∃ P, ptsL N zs = P := ⟨_, rfl⟩
  rw [hP] at HPl HPa ⊢
  by_cases h0 : lim = 0
  · have hp0 : P = [] := List.eq_nil_of_length_eq_zero (by rw [HPl.out, h0])
    subst hp0
    subst h0
    clear h hC hP hzl HX HC HPl HPa hlim c7 l7
    cases a with
    | none =>
      have hc0 := hnil rfl
      subst hc0
      obtain rfl : m = 0 := by omega
      clear hnil hroom
      go_enter Try.func18, Try.ntmps18
      go_wp2_with fail
      go_loopw [4, 13] (fun v i wr => i = .int .i64 0 ∧ v = .slice none 0 0 ∧ Hid (Keeps Non w wr)) (fun _ i _ => 0)
      case atStart => exact ⟨rfl, rfl, Keeps.refl _ _⟩
      case round =>
        obtain ⟨rfl, rfl, HK⟩ := hrel
        go_wp2_with fail
        try rw [Exit.noGoto_ret]
        go_ret
        exact ⟨_, rfl, World.ownsRow_nil _ _ _ _, HK.out⟩
    | some ad =>
      obtain ⟨ab, ao, asp⟩ := ad
      clear hnil
      go_enter Try.func18, Try.ntmps18
      go_wp2_with fail
      go_loopw [4, 13] (fun v i wr => i = .int .i64 0 ∧ v = .slice none 0 0 ∧ Hid (Keeps Non w wr)) (fun _ i _ => 0)
      case atStart => exact ⟨rfl, rfl, Keeps.refl _ _⟩
      case round =>
        obtain ⟨rfl, rfl, HK⟩ := hrel
        go_wp2_with fail
        try rw [Exit.noGoto_ret]
        go_ret
        exact ⟨_, rfl, World.ownsRow_nil _ _ _ _, HK.out⟩
  · obtain ⟨b, off, rfl, lb, hc⟩ := h.at (by omega)
    clear h hC hP hzl hlim c7 l7 hnil lb hc
    go_enter Try.func18, Try.ntmps18
    go_wp2_with fail
    go_loopw [4, 13] (fun v i wr => ∃ k : Nat, k ≤ lim ∧ i = .int .i64 k ∧ Hid (wr.ownsRow w.heap.size 3 1 v k ((P.take k).map (Value.int .i64))) ∧ Hid (Keeps Non w wr)) (fun _ i _ => lim - (intOf i).toNat)
    case atStart => exact ⟨0, by omega, rfl, World.ownsRow_nil _ _ _ _, Keeps.refl _ _⟩
    case round =>
      obtain ⟨k, hk, rfl, HO, HK⟩ := hrel
      by_cases hlt : k < lim
      · obtain ⟨b1, o1, hb1, lb1, hc1⟩ := (HX.out.non HK.out).at (by omega)
        cases hb1
        have ck := hc1 k (by omega)
        have hbd := HX.out.bd k
        have hpk := HPa.out k hlt
        have hts := take_snoc (xs := P) (k := k) (by rw [HPl.out]; exact hlt)
        obtain ⟨x, hx⟩ : ∃ x, zs.getD k 0 = x := ⟨_, rfl⟩
        rw [hx] at ck hbd hpk
        rw [hpk] at hts
        have r1 : x.tmod (N : Int) = x % (N : Int) := Int.tmod_eq_emod_of_nonneg hbd.1
        have r2 : IntKind.i64.wrap x = x := IntWalk.i64_in _ (by omega)
        have r3 : ¬ N = 0 := by omega
        have r4 : ¬ (N : Int) = 0 := by omega
        obtain ⟨y, hy⟩ : ∃ y, x % (N : Int) = y := ⟨_, rfl⟩
        rw [hy] at r1 hts
        have HTs := hide hts
        have c7 := (HC.out.keeps HK.out (fun x => x)).cell 0
        simp only [List.getElem?_cons_zero] at c7
        have l7 := (HC.out.keeps HK.out (fun x => x)).lt
        have z0 : (0 : Int) ≤ (k : Int) := by omega
        have z1 : (k : Int) < (lim : Int) := by omega
        have y0 := Int.emod_nonneg x r4
        have y1 := Int.emod_lt_of_pos x (show (0 : Int) < (N : Int) by omega)
        rw [hy] at y0 y1
        have r5 : IntKind.i64.wrap y = y := IntWalk.i64_in _ (by omega)
        obtain ⟨a9, c9, hv9⟩ := owns_slice HO.out
        subst hv9
        clear hc1 hx hpk hy hts
        go_wp2_with (at_builtin; refine wpList_append_own_at _ rfl _ _ 25 rfl w.heap.size 3 i0 (.int .i64 0) 1 8 Try.underlying25 hi hz0 hz1 hz2 rfl (by decide) (.slice a9 k c9) k ((P.take k).map (Value.int .i64)) rfl (owns_keeps HO.out ((Keeps.refl Non _).alloc _) (fun _ _ x => x)) ⟨wr.heap.size, 0, none⟩ 1 1 [.int .i64 y] rfl ?qc1 ?qc2 ?qc3 ?qc4 ?qc5 ?qc6 ?_)
        case qc1 => rfl
        case qc2 => exact cell_one_new _ _ _
        case qc3 => intro u hu; simp at hu; subst hu; rfl
        case qc4 => unfold maxLen; omega
        case qc5 => omega
        case qc6 => simp; have := HK.out.size; omega
        intro v' w5 hown hgrow hnil2 hat
        have HO5 := hide hown
        have HG5 := hide (keeps_grown (Keeps.refl (fun b => some b = Value.ownBlock (.slice a9 k c9)) _) hgrow (fun g hg => .inl hg.symm))
        have HLt := hide (owns_here HO.out)
        clear hown hgrow hnil2 hat
        go_wp2_with fail
        go_roundw
        case rel => exact ⟨k + 1, by omega, by go_num, by rw [HTs.out, List.map_append, List.map_take]; exact HO5.out, (HK.out.alloc _).trans HG5.out (fun i hi e => by have := (HLt.out i e.symm).1; omega)⟩
        case measure => simp [intOf]; omega
      · have hkl : k = lim := by omega
        subst hkl
        have y9 : ¬ (k : Int) < (k : Int) := by omega
        go_wp2_with fail
        try rw [Exit.noGoto_ret]
        go_ret
        have e : P.take k = P := List.take_of_length_le (by rw [HPl.out]; exact Nat.le_refl _)
        have ho := HO.out
        rw [e] at ho
        exact ⟨_, rfl, by rw [HPl.out]; exact ho, HK.out⟩
end Go.Proofs.Ythpdflpkkiabhaa
