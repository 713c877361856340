/-
  slices.Grow of a nil slice, slices.Concat of rows of ints. No condition.
-/
import Derived.Test.YthpdflpkkiabhaaCl
import Derived.Test.YthpdflpkkiabhaaCp
import Derived.Lib.AppendZeros
namespace Go.Proofs.Ythpdflpkkiabhaa
open Go.RowKit
attribute [local go_sem] onto_cell onto_frozen
set_option linter.unusedVariables false
set_option maxRecDepth 100000 in
set_option maxHeartbeats 2000000 in
theorem grow_nil (n : Nat) (w : World) (hn : n ≤ 10000000) :
    Calls Try.prog 48 #[.slice none 0 0, .int .i64 (n : Int)] w fun e w' => ∃ v, e = .returned v ∧ w'.ownsRow w.heap.size 3 1 v 0 [] ∧ Keeps Non w w' := by
  obtain ⟨i0, hi, hz0, hz1, hz2⟩ := info3_parts
  have h1 : ¬ (n : Int) < 0 := by omega
  by_cases h0 : n = 0
  · subst h0
    go_enter Try.func48, Try.ntmps48
    go_wp2_with fail
    go_ret
    exact ⟨_, rfl, World.ownsRow_nil _ _ _ _, Keeps.refl _ _⟩
  · have hrz : ∀ ty, (Builtin.append_ #[25, 3] ty #[.slice none 0 0, .int .i64 (n : Int)]).run Try.prog w = .ok (.slice (some ⟨w.heap.size, 0, none⟩) n (grownCap w n 0 3)) (w.drew.alloc (.cells (Builtin.zeroCells (Value.int .i64 0).cells n ++ Builtin.zeroCells (Value.int .i64 0).cells (grownCap w n 0 3 - n)) 3)) := fun ty =>
      Lib.run_append_nil_zeros w 25 3 ty 3 i0 (.int .i64 0) .i64 .i64 Try.underlying25 Try.underlying3 hi hz0 n (by omega) (by rw [hz1]; decide) (by omega) (by rw [hz2]; omega)
    have hge := grownCap_ge w n 0 3
    have hle := grownCap_le_maxLen w n 0 3 (by unfold maxLen; omega)
    obtain ⟨G, hG⟩ : ∃ G, grownCap w n 0 3 = G := ⟨_, rfl⟩
    rw [hG] at hge hle
    simp only [hG] at hrz
    have hle2 : G ≤ 9223372036854775807 := by unfold maxLen at hle; omega
    have hcs : (Builtin.zeroCells (Value.int .i64 0).cells n ++ Builtin.zeroCells (Value.int .i64 0).cells (G - n)).size = G := by
      have e1 : ((Value.int .i64 0).cells).size = 1 := rfl
      rw [Array.size_append, size_zeroCells, size_zeroCells, e1]
      omega
    have hp : (0 : Int) < (n : Int) := by omega
    have hp2 : (0 : Int) < (n : Int) - (0 - 0) := by omega
    obtain ⟨Z, hZ⟩ : ∃ Z, Builtin.zeroCells (Value.int .i64 0).cells n ++ Builtin.zeroCells (Value.int .i64 0).cells (G - n) = Z := ⟨_, rfl⟩
    simp only [hZ] at hrz
    rw [hZ] at hcs
    have HZ := hide hcs
    have HL := hide hle
    have HR := hide hrz
    have hw : IntKind.i64.wrap (n : Int) = (n : Int) := IntWalk.i64_in _ (by omega)
    clear hi hz0 hz1 hz2 hG hZ hcs hle hrz
    go_enter Try.func48, Try.ntmps48
    go_wp2_with (at_builtin; refine Lib.wpList_append_run _ rfl _ _ _ _ rfl _ _ rfl rfl _ _ (HR.out _) ?_)
    go_ret
    refine ⟨_, rfl, ⟨rfl, .inr ⟨w.heap.size, G, Z, rfl, Nat.le_refl _, ?_, Nat.zero_le _, HL.out, by rw [HZ.out]; omega, by simp⟩⟩, (Keeps.refl Non w).drew.alloc _⟩
    exact heap_alloc_new w.drew _
theorem news_of_ints {w : World} {b off n : Nat} {xs : List Int} (hl : xs.length = n) (hc : ∀ i, i < n → w.cell? ⟨b, off + i, none⟩ = some (.int .i64 (xs.getD i 0))) : ∀ j u, (xs.map (Value.int .i64))[j]? = some u → w.cell? ((⟨b, off, none⟩ : Addr).add j) = some u := by
  intro j u hj
  rw [List.getElem?_map] at hj
  have hjl : j < xs.length := by
    by_cases h : j < xs.length
    · exact h
    · rw [List.getElem?_eq_none (by omega)] at hj
      cases hj
  rw [List.getElem?_eq_getElem hjl] at hj
  cases hj
  rw [Addr.add_lit, hc j (by omega), getD_num hjl]
theorem append_none (base : Nat) (v : Value) (n : Nat) (xs : List Value) (a : Option Addr) (c : Nat) (ty : TypeId) (w : World) (h : w.ownsRow base 3 1 v n xs) : (Builtin.append_ #[25, 25] ty #[v, .slice a 0 c]).run Try.prog w = .ok v w := by
  obtain ⟨i0, hi, hz0, hz1, hz2⟩ := info3_parts
  have hfc : ∀ s, (Builtin.firstCells s 0 (.slice a 0 c)).run Try.prog w = .ok #[] w := fun s => by
    cases a with
    | none => exact run_firstCells_none w s 0 0 c
    | some ad => exact run_firstCells_some w s 0 ad 0 c [] (by simp) (fun j v h => by simp at h)
  obtain ⟨_, h2⟩ := h
  rcases h2 with ⟨rfl, h3⟩ | ⟨g, cap, cur, rfl, hg, hh, hnc, _⟩
  · simp [Builtin.append_, run_underlying Try.underlying25, Go.sizeOf, typeInfo, hi, Builtin.lenOf, hfc]
  · simp [Builtin.append_, run_underlying Try.underlying25, Go.sizeOf, typeInfo, hi, Builtin.lenOf, hfc, hnc]
    rfl
def SameW (w wr : World) : Prop := wr = w
theorem flat_succ {xss : List (List Int)} {k : Nat} (h : k < xss.length) : (xss.take (k + 1)).flatten = (xss.take k).flatten ++ xss.getD k [] := by
  rw [List.take_succ_eq_append_getElem h, List.flatten_append, getD_numL h]
  simp
theorem flat_short {xss : List (List Int)} (h : ∀ i, (xss.getD i []).length ≤ 10000) : ∀ k, k ≤ xss.length → (xss.take k).flatten.length ≤ k * 10000
  | 0, _ => by simp
  | k + 1, hk => by
    have := flat_short h k (by omega)
    have := h k
    rw [flat_succ (by omega), List.length_append]
    omega
set_option maxRecDepth 100000 in
set_option maxHeartbeats 4000000 in
theorem concat_l (a : Option Addr) (n cap : Nat) (xss : List (List Int)) (w : World) (h : Rows w a n xss) (hn : n ≤ 100) (hl : ∀ i, (xss.getD i []).length ≤ 10000) :
    Calls Try.prog 20 #[.slice a n cap] w fun e w' => ∃ v, e = .returned v ∧ OwnI w w' v xss.flatten := by
  obtain ⟨i0, hi, hz0, hz1, hz2⟩ := info3_parts
  have hlen := h.len
  have HX := hide h
  have HS := hide hl
  have HF := hide (flat_short hl)
  have HLn := hide hlen
  clear h hl hlen
  go_enter Try.func20, Try.ntmps20
  go_wp2_with fail
  obtain ⟨W, hW, hWk⟩ : ∃ W, w = W ∧ Keeps Non w W := ⟨w, rfl, Keeps.refl _ _⟩
  clear hWk hW W
  go_loopw [3, 11] (fun s i wr => ∃ k : Nat, k ≤ n ∧ i = .int .i64 k ∧ s = .int .i64 ((xss.take k).flatten.length : Nat) ∧ Hid (SameW w wr)) (fun _ i _ => n - (intOf i).toNat)
  case atStart => exact ⟨0, by omega, rfl, rfl, rfl⟩
  case round =>
    obtain ⟨k, hk, rfl, rfl, HW⟩ := hrel
    have hw : w = wr := (show wr = w from HW.out).symm
    subst hw
    clear HW
    have hfk := HF.out k (by have := HLn.out; omega)
    obtain ⟨m, hm⟩ : ∃ m, (xss.take k).flatten.length = m := ⟨_, rfl⟩
    have HM := hide hm
    rw [hm] at hfk ⊢
    by_cases hlt : k < n
    · obtain ⟨b1, o1, rfl, lb1, hc1⟩ := HX.out.at (by omega)
      obtain ⟨a1, c1, cr1, hI1⟩ := hc1 k hlt
      have hs1 := HS.out k
      have hfs := flat_succ (xss := xss) (k := k) (by have := HLn.out; omega)
      obtain ⟨nk, hnk⟩ : ∃ l, xss.getD k [] = l := ⟨_, rfl⟩
      obtain ⟨l1, hl1⟩ : ∃ l, nk.length = l := ⟨_, rfl⟩
      rw [hnk, hl1] at cr1 hI1 hs1
      rw [hnk] at hfs
      have HE : Hid ((xss.take (k + 1)).flatten.length = m + l1) := by show _ = _; rw [hfs, List.length_append, hm, hl1]
      have z0 : (0 : Int) ≤ (k : Int) := by omega
      have z1 : (k : Int) < (n : Int) := by omega
      have z2 : ¬ ((m : Int) + (l1 : Int) < 0) := by omega
      have z3 : IntKind.i64.wrap ((m : Int) + (l1 : Int)) = (m : Int) + (l1 : Int) := IntWalk.i64_in _ (by omega)
      clear hc1 hI1 hnk hl1 hm hfs
      go_wp2_with fail
      go_roundw
      case rel => exact ⟨k + 1, by omega, by go_num, by rw [HE.out]; go_num, rfl⟩
      case measure => simp [intOf]; omega
    · have hkn : k = n := by omega
      subst hkn
      have y9 : ¬ (k : Int) < (k : Int) := by omega
      have HG := hide (grow_nil m w (by omega))
      clear hm
      go_wp2_with fail
      refine HG.out.mono ?_
      rintro e w2 ⟨v, rfl, ho, hkw⟩
      have HO := hide ho
      have HK := hide hkw
      clear ho hkw HG
      go_wp2_with fail
      go_loopw [6, 27] (fun v i wx => ∃ q : Nat, q ≤ k ∧ i = .int .i64 q ∧ Hid (wx.ownsRow w.heap.size 3 1 v (xss.take q).flatten.length ((xss.take q).flatten.map (Value.int .i64))) ∧ Hid (Keeps Non w wx)) (fun _ i _ => k - (intOf i).toNat)
      case atStart => exact ⟨0, by omega, rfl, HO.out, HK.out⟩
      case round =>
        obtain ⟨q, hq, rfl, HOq, HKq⟩ := hrel
        by_cases hlt : q < k
        · obtain ⟨b1, o1, rfl, lb1, hc1⟩ := (HX.out.non HKq.out).at (by omega)
          obtain ⟨a1, c1, cr1, hI1⟩ := hc1 q hlt
          have hs1 := HS.out q
          have hfs := flat_succ (xss := xss) (k := q) (by have := HLn.out; omega)
          have hfq := HF.out q (by have := HLn.out; omega)
          obtain ⟨ys, hys⟩ : ∃ l, (xss.take q).flatten = l := ⟨_, rfl⟩
          obtain ⟨nk, hnk⟩ : ∃ l, xss.getD q [] = l := ⟨_, rfl⟩
          obtain ⟨l1, hl1⟩ : ∃ l, nk.length = l := ⟨_, rfl⟩
          obtain ⟨yl, hyl⟩ : ∃ l, ys.length = l := ⟨_, rfl⟩
          rw [hnk, hl1] at cr1 hI1 hs1
          rw [hys, hyl] at HOq hfq
          rw [hys, hnk] at hfs
          have HFs := hide hfs
          have HYl := hide hyl
          have HL1 := hide hl1
          have HI1 := hide hI1
          have z0 : (0 : Int) ≤ (q : Int) := by omega
          have z1 : (q : Int) < (k : Int) := by omega
          obtain ⟨a9, c9, hv9⟩ := owns_slice HOq.out
          subst hv9
          clear hc1 hI1 hnk hl1 hfs hys hyl
          by_cases h0 : l1 = 0
          · subst h0
            have hn0 : nk = [] := List.eq_nil_of_length_eq_zero HL1.out
            have HAp := hide (fun ty => append_none w.heap.size (.slice a9 yl c9) yl (ys.map (Value.int .i64)) a1 c1 ty wr HOq.out)
            have HN0 := hide hn0
            clear hn0
            go_wp2_with (at_builtin; refine Lib.wpList_append_run _ rfl _ _ _ _ rfl _ _ rfl rfl _ _ (HAp.out _) ?_)
            go_roundw
            case rel => exact ⟨q + 1, by omega, by go_num, by rw [HFs.out, HN0.out, List.append_nil, HYl.out]; exact HOq.out, HKq.out⟩
            case measure => simp [intOf]; omega
          · obtain ⟨b2, o2, rfl, lb2, hc2⟩ := HI1.out.at (by omega)
            have HNw := hide (news_of_ints HL1.out hc2)
            clear hc2
            go_wp2_with (at_builtin; refine wpList_append_own_at _ rfl _ _ 25 rfl w.heap.size 3 i0 (.int .i64 0) 1 8 Try.underlying25 hi hz0 hz1 hz2 rfl (by decide) (.slice a9 yl c9) yl (ys.map (Value.int .i64)) rfl HOq.out ⟨b2, o2, none⟩ l1 c1 (nk.map (Value.int .i64)) rfl ?qc1 HNw.out ?qc2 ?qc3 ?qc4 HKq.out.size ?_)
            case qc1 => rw [List.length_map, HL1.out, Nat.mul_one]
            case qc2 =>
              intro u hu
              obtain ⟨x, _, rfl⟩ := List.mem_map.1 hu
              rfl
            case qc3 => unfold maxLen; omega
            case qc4 => omega
            intro v' w5 hown hgrow hnil hat
            have HO5 := hide hown
            have HG5 := hide (keeps_grown (Keeps.refl (fun b => some b = Value.ownBlock _) wr) hgrow (fun g hg => .inl hg.symm))
            have HLt := hide (owns_here HOq.out)
            clear hown hgrow hnil hat
            go_wp2_with fail
            go_roundw
            case rel => exact ⟨q + 1, by omega, by go_num, by rw [HFs.out, List.length_append, HYl.out, HL1.out, List.map_append]; exact HO5.out, HKq.out.trans HG5.out (fun i hi e => by have := (HLt.out i e.symm).1; omega)⟩
            case measure => simp [intOf]; omega
        · have hqk : q = k := by omega
          subst hqk
          have y8 : ¬ (q : Int) < (q : Int) := by omega
          go_wp2_with fail
          try rw [Exit.noGoto_ret]
          go_ret
          have e : xss.take q = xss := List.take_of_length_le (by have := HLn.out; omega)
          have ho := HOq.out
          rw [e] at ho
          exact ⟨_, rfl, ho, HKq.out⟩
end Go.Proofs.Ythpdflpkkiabhaa
