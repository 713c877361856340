/-
  The walk over BlocksSmall. No condition.
-/
import Derived.Test.YtkcbahfmdokalaaLv
import Derived.Test.YtkcbahfmdokalaaLs
import Derived.Test.YtkcbahfmdokalaaLk
import Derived.Test.YtkcbahfmdokalaaTl
import Derived.RegionTactic
import Derived.Deep.RegionWith
import Derived.BigRegion
import Derived.Deep.Cut
import Derived.Deep.RegionLaw
import Derived.Test.YtkcbahfmdokalaaFo
namespace Go.Proofs.Ytkcbahfmdokalaa
section
open Go.RowKit
attribute [local go_sem] onto_cell onto_frozen
set_option linter.unusedVariables false
def dst9 : List Tmp := [49, 50, 51, 52, 53, 54, 55, 56, 57, 58, 59, 60, 61, 62, 63, 64, 65, 66, 67, 68, 69, 70, 71, 72, 73, 74, 75, 76, 77, 78, 79, 80, 81, 82, 83, 84]
def G9 (L T n k p : Nat) (sp : Value) : Nat → Value → World → Prop
  | 0, v, w => v = .slice (some ⟨L, 0, none⟩) 4 4
  | 1, v, w => v = .int .i64 n
  | 2, v, w => v = .slice (some ⟨L, 0, none⟩) n 4
  | 3, v, w => v = .slice (some ⟨T, 0, none⟩) 7 7
  | 4, v, w => v = .int .i64 k
  | 5, v, w => v = .int .i64 p
  | 6, v, w => v = .pointer (some ⟨T, p, none⟩)
  | 7, v, w => v = sp
  | 8, v, w => v = .bool true
  | 9, v, w => v = .bool false
  | 10, v, w => v = .bool false
  | 11, v, w => v = .slice (some ⟨T, 0, none⟩) 7 7
  | 12, v, w => v = .int .i64 k
  | 13, v, w => v = .int .i64 p
  | 14, v, w => v = .pointer (some ⟨T, p, none⟩)
  | 15, v, w => v = sp
  | 16, v, w => v = .slice (some ⟨L, 0, none⟩) 4 4
  | 17, v, w => v = .int .i64 n
  | 18, v, w => v = .slice (some ⟨L, 0, none⟩) n 4
  | 19, v, w => v = .bool true
  | 20, v, w => v = .bool false
  | 21, v, w => v = .bool false
  | 22, v, w => v = .bool false
  | 23, v, w => v = .slice (some ⟨L, 0, none⟩) 4 4
  | 24, v, w => v = .int .i64 n
  | 25, v, w => v = .slice (some ⟨L, 0, none⟩) n 4
  | 26, v, w => IsL w v [0]
  | 27, v, w => IsL w v [1, 0]
  | 28, v, w => IsL w v [2, 1]
  | 29, v, w => IsL w v [0, 0]
  | 30, v, w => ∃ b, v = .slice (some ⟨b, 0, none⟩) 4 4 ∧ Rows w (some ⟨b, 0, none⟩) n (next4.take n)
  | 31, v, w => v = .int .i64 n
  | 32, v, w => ∃ b, v = .slice (some ⟨b, 0, none⟩) n 4 ∧ Rows w (some ⟨b, 0, none⟩) n (next4.take n)
  | 33, v, w => v = .bool true
  | 34, v, w => v = .bool false
  | 35, v, w => v = .bool false
  | _, v, w => False
theorem g9_stable (L T n k p : Nat) (sp : Value) (i : Nat) (v : Value) (w w' : World) (h : G9 L T n k p sp i v w) (hk : Keeps Non w w') : G9 L T n k p sp i v w' := by
  unfold G9 at *
  split at h
  all_goals first
    | exact h
    | exact IsL.non h hk
    | (obtain ⟨b, h1, h2⟩ := h; exact ⟨b, h1, h2.non hk⟩)
def dst31 : List Tmp := [151, 152, 153, 154, 155, 156, 157, 158, 159, 160, 161, 162, 163, 164, 165]
def G31 : Nat → Value → World → Prop
  | 0, v, w => IsR w v [[]]
  | 1, v, w => IsL w v [0]
  | 2, v, w => IsL w v [0]
  | 3, v, w => IsR w v [[0], [0]]
  | 4, v, w => IsL w v [-1]
  | 5, v, w => IsR w v [[-1]]
  | 6, v, w => IsL w v [1]
  | 7, v, w => IsR w v [[1]]
  | 8, v, w => IsL w v (List.replicate 64 0)
  | 9, v, w => IsR w v [List.replicate 64 0]
  | 10, v, w => IsL w v (List.replicate 65 0)
  | 11, v, w => IsR w v [List.replicate 65 0]
  | 12, v, w => Is7 w v
  | 13, v, w => v = .int .i64 7
  | 14, v, w => v = .int .i64 0
  | _, v, w => False
theorem g31_stable (i : Nat) (v : Value) (w w' : World) (h : G31 i v w) (hk : Keeps Non w w') : G31 i v w' := by
  unfold G31 at *
  split at h
  all_goals first
    | exact h
    | exact IsL.non h hk
    | exact IsR.non h hk
    | exact Is7.non h hk
set_option maxRecDepth 100000 in
set_option maxHeartbeats 16000000 in
theorem law_small (w : World) : Calls Try.prog 11 #[] w fun e w' => e = .returned (.bool true) ∧ Keeps Non w w' := by
  have HR0 := hide (layR_rows w someL (lay_some_at w) (by decide) some_small.1 (n := 7) (by decide))
  have HK0 := hide (layR_keeps w someL)
  have hls := lay_some w
  obtain ⟨W0, hW0⟩ : ∃ z, layR w someL = z := ⟨_, rfl⟩
  obtain ⟨T, hT⟩ : ∃ z, w.heap.size + 1 + 1 + 1 + 1 + 1 + 1 = z := ⟨_, rfl⟩
  rw [hW0] at hls HR0 HK0
  rw [hT] at HR0
  have HLs := hide hls
  have HTs := hide hT
  clear hW0 hls hT
  go_enter Try.func11, Try.ntmps11
  go_wp2_with fail
  rw [← HLs.out, HTs.out]
  clear HLs
  go_loopw [28] (fun t wr => ∃ k : Nat, k ≤ 625 ∧ t = .int .i64 k ∧ Hid (Keeps Non W0 wr)) (fun t _ => 625 - (intOf t).toNat)
  case atStart => exact ⟨0, by omega, rfl, Keeps.refl _ _⟩
  case round =>
    obtain ⟨k, hk, rfl, HK⟩ := hrel
    by_cases hlt : k < 625
    · have k0 : (k : Int) < 625 := by omega
      have k1 : (0 : Int) ≤ (k : Int) := by omega
      obtain ⟨L, hL⟩ : ∃ z, wr.heap.size = z := ⟨_, rfl⟩
      have HIl := hide (ints_laid wr [(k : Int) % 5 - 1, (k : Int) / 5 % 5 - 1, (k : Int) / 25 % 5 - 1, (k : Int) / 125 - 1] hL.symm (by simp))
      have HKl := hide (HK.out.alloc (.cells #[.int .i64 ((k : Int) % 5 - 1), .int .i64 ((k : Int) / 5 % 5 - 1), .int .i64 ((k : Int) / 25 % 5 - 1), .int .i64 ((k : Int) / 125 - 1)] 3))
      have HGl : Hid (Good [(k : Int) % 5 - 1, (k : Int) / 5 % 5 - 1, (k : Int) / 25 % 5 - 1, (k : Int) / 125 - 1]) := fun x hx => by
        simp only [List.mem_cons, List.not_mem_nil, or_false] at hx
        refine wf_of ?_ ?_ <;> (rcases hx with rfl | rfl | rfl | rfl <;> omega)
      go_wp2_with fail
      obtain ⟨W1, hW1⟩ : ∃ z, wr.alloc (.cells #[.int .i64 ((k : Int) % 5 - 1), .int .i64 ((k : Int) / 5 % 5 - 1), .int .i64 ((k : Int) / 25 % 5 - 1), .int .i64 ((k : Int) / 125 - 1)] 3) = z := ⟨_, rfl⟩
      obtain ⟨l, hl⟩ : ∃ l, [(k : Int) % 5 - 1, (k : Int) / 5 % 5 - 1, (k : Int) / 25 % 5 - 1, (k : Int) / 125 - 1] = l := ⟨_, rfl⟩
      have HLl : Hid (l.length = 4) := by rw [← hl]; rfl
      rw [hl] at HIl HGl
      replace HIl : Hid (Ints W1 (some ⟨L, 0, none⟩) 4 l) := by
        have h := HIl.out
        rw [HLl.out] at h
        rw [← hW1, ← hl]
        rw [← hl] at h
        exact h
      rw [hW1] at HKl ⊢
      try rw [hL]
      clear hW1 hL hl
      obtain ⟨w1, hw1⟩ : ∃ z, z = wr := ⟨_, rfl⟩
      subst hw1
      go_loopw [46] (fun t wr => ∃ n : Nat, n ≤ 5 ∧ t = .int .i64 n ∧ Hid (Keeps Non W1 wr)) (fun t _ => 5 - (intOf t).toNat)
      case atStart => exact ⟨0, by omega, rfl, Keeps.refl _ _⟩
      case round =>
        obtain ⟨n, hn, rfl, HKi⟩ := hrel
        by_cases hnl : n < 5
        · have n0 : (n : Int) < 5 := by omega
          have n1 : (0 : Int) ≤ (n : Int) := by omega
          have n2 : (n : Int) ≤ 4 := by omega
          obtain ⟨p, hp⟩ : ∃ p, k % 7 = p := ⟨_, rfl⟩
          have p7 : p < 7 := by omega
          have r1 : (k : Int).tmod 7 = (p : Int) := by rw [Int.tmod_eq_emod_of_nonneg (by omega)]; omega
          have r2 : (k : Int) % 7 = (p : Int) := by omega
          have p0 : (0 : Int) ≤ (p : Int) := by omega
          have p1 : (p : Int) < 7 := by omega
          have p2 : IntKind.i64.wrap (p : Int) = (p : Int) := IntWalk.i64_in _ (by omega)
          have HRr := HR0.out.non (HKl.out.then HKi.out)
          obtain ⟨b9, off, hb9, lT, hcT⟩ := HRr.at (by omega)
          cases hb9
          obtain ⟨ap, cp, hcp, hip⟩ := hcT p p7
          rw [Nat.zero_add] at hcp
          obtain ⟨sp, hsp⟩ : ∃ z, (List.take 7 someL).getD p [] = z := ⟨_, rfl⟩
          have hgp : Good sp ∧ sp.length ≤ 1000 := by rw [← hsp]; exact some_small.2 p
          rw [hsp] at hcp hip
          obtain ⟨np, hnp⟩ : ∃ z, sp.length = z := ⟨_, rfl⟩
          rw [hnp] at hcp hip hgp
          have HF1 : Hid (FitI wr (.slice (some ⟨L, 0, none⟩) n 4)) := ⟨_, _, _, _, rfl, (HIl.out.non HKi.out).take (by omega), good_take HGl.out n, by omega⟩
          have HF2 : Hid (FitI wr (.slice ap np cp)) := ⟨_, _, _, _, rfl, hip, hgp.1, hgp.2⟩
          have lL : L < wr.heap.size := by
            obtain ⟨_, _, e1, e2, _⟩ := (HIl.out.non HKi.out).at (by omega)
            cases e1
            exact e2
          have n4 : n ≤ 4 := by omega
          have HN4 := hide n4
          have hn4 := n4
          clear hip hgp hsp hnp hp hcT HRr n4
          go_wp2_with fail
          refine wp_region_mono dst9 [(1, .slice (some ⟨T, 0, none⟩) 7 7), (2, .int .i64 k), (3, .slice (some ⟨L, 0, none⟩) 4 4), (4, .int .i64 n)] (G9 L T n k p (.slice ap np cp)) (by kernel_rfl) (by kernel_rfl) (g9_stable L T n k p _) ?_ ?_ ?_
          · refine List.forall_mem_cons.2 ⟨rfl, List.forall_mem_cons.2 ⟨rfl, List.forall_mem_cons.2 ⟨rfl, List.forall_mem_cons.2 ⟨rfl, fun _ h => (by cases h)⟩⟩⟩⟩
          · refine ⟨?_, ?_, ?_, ?_, ?_, ?_, ?_, ?_, ?_, ?_, ?_, ?_, ?_, ?_, ?_, ?_, ?_, ?_, ?_, ?_, ?_, ?_, ?_, ?_, ?_, ?_, ?_, ?_, ?_, ?_, ?_, ?_, ?_, ?_, ?_, ?_, trivial⟩
            · intro a w' hk hb hd
              refine ⟨trivial, ?_⟩
              have e3 : a.eval (.tmp 3) = .slice (some ⟨L, 0, none⟩) 4 4 := hb (3, .slice (some ⟨L, 0, none⟩) 4 4) (by simp)
              clear hb hd
              simp only [execOp, *]
              exact ⟨Keeps.refl _ _, rfl⟩
            · intro a w' hk hb hd
              refine ⟨trivial, ?_⟩
              have e4 : a.eval (.tmp 4) = .int .i64 n := hb (4, .int .i64 n) (by simp)
              clear hb hd
              simp only [execOp, *]
              exact ⟨Keeps.refl _ _, rfl⟩
            · intro a w' hk hb hd
              refine ⟨trivial, ?_⟩
              have e49 : a.eval (.tmp 49) = .slice (some ⟨L, 0, none⟩) 4 4 := hd 0 49 (by kernel_rfl) rfl
              have e50 : a.eval (.tmp 50) = .int .i64 n := hd 1 50 (by kernel_rfl) rfl
              clear hb hd
              simp only [execOp, Option.map_some, Option.map_none, *]
              go_simp
              exact ⟨Keeps.refl _ _, rfl⟩
            · intro a w' hk hb hd
              refine ⟨trivial, ?_⟩
              have e1 : a.eval (.tmp 1) = .slice (some ⟨T, 0, none⟩) 7 7 := hb (1, .slice (some ⟨T, 0, none⟩) 7 7) (by simp)
              clear hb hd
              simp only [execOp, *]
              exact ⟨Keeps.refl _ _, rfl⟩
            · intro a w' hk hb hd
              refine ⟨trivial, ?_⟩
              have e2 : a.eval (.tmp 2) = .int .i64 k := hb (2, .int .i64 k) (by simp)
              clear hb hd
              simp only [execOp, *]
              exact ⟨Keeps.refl _ _, rfl⟩
            · intro a w' hk hb hd
              refine ⟨trivial, ?_⟩
              have e53 : a.eval (.tmp 53) = .int .i64 k := hd 4 53 (by kernel_rfl) rfl
              clear hb hd
              simp only [execOp, *]
              go_simp
              exact ⟨Keeps.refl _ _, rfl⟩
            · intro a w' hk hb hd
              refine ⟨trivial, ?_⟩
              have e52 : a.eval (.tmp 52) = .slice (some ⟨T, 0, none⟩) 7 7 := hd 3 52 (by kernel_rfl) rfl
              have e54 : a.eval (.tmp 54) = .int .i64 p := hd 5 54 (by kernel_rfl) rfl
              clear hb hd
              simp only [execOp, *]
              go_simp
              exact ⟨Keeps.refl _ _, rfl⟩
            · intro a w' hk hb hd
              refine ⟨trivial, ?_⟩
              have e55 : a.eval (.tmp 55) = .pointer (some ⟨T, p, none⟩) := hd 6 55 (by kernel_rfl) rfl
              have cT := (hk.cell (p := ⟨T, p, none⟩) lT (fun x => x)).trans hcp
              have lT2 := Nat.lt_of_lt_of_le lT hk.size
              clear hb hd
              simp only [execOp, *]
              go_simp
              exact ⟨Keeps.refl _ _, rfl⟩
            · intro a w' hk hb hd
              refine ⟨trivial, ?_⟩
              have e51 : a.eval (.tmp 51) = .slice (some ⟨L, 0, none⟩) n 4 := hd 2 51 (by kernel_rfl) rfl
              have e56 : a.eval (.tmp 56) = .slice ap np cp := hd 7 56 (by kernel_rfl) rfl
              have f51 : (a.tmps[51]?).getD undef = .slice (some ⟨L, 0, none⟩) n 4 := (eval_tmp a 51).symm.trans e51
              have f56 : (a.tmps[56]?).getD undef = .slice ap np cp := (eval_tmp a 56).symm.trans e56
              clear hb hd
              have hc := pairs_fit HF1.out HF2.out hk
              simp only [execOp, *]
              go_simp
              exact hc.mono fun e w2 ⟨he, hk2⟩ => ⟨_, he, hk2, rfl⟩
            · intro a w' hk hb hd
              refine ⟨trivial, ?_⟩
              have e57 : a.eval (.tmp 57) = .bool true := hd 8 57 (by kernel_rfl) rfl
              clear hb hd
              simp only [execOp, *]
              exact ⟨Keeps.refl _ _, rfl⟩
            · intro a w' hk hb hd
              refine ⟨trivial, ?_⟩
              have e58 : a.eval (.tmp 58) = .bool false := hd 9 58 (by kernel_rfl) rfl
              clear hb hd
              simp only [execOp, *]
              exact ⟨Keeps.refl _ _, rfl⟩
            · intro a w' hk hb hd
              refine ⟨⟨_, rfl, hd 10 59 (by kernel_rfl) rfl⟩, ?_⟩
              have e1 : a.eval (.tmp 1) = .slice (some ⟨T, 0, none⟩) 7 7 := hb (1, .slice (some ⟨T, 0, none⟩) 7 7) (by simp)
              clear hb hd
              simp only [execOp, *]
              exact ⟨Keeps.refl _ _, rfl⟩
            · intro a w' hk hb hd
              refine ⟨⟨_, rfl, hd 10 59 (by kernel_rfl) rfl⟩, ?_⟩
              have e2 : a.eval (.tmp 2) = .int .i64 k := hb (2, .int .i64 k) (by simp)
              clear hb hd
              simp only [execOp, *]
              exact ⟨Keeps.refl _ _, rfl⟩
            · intro a w' hk hb hd
              refine ⟨⟨_, rfl, hd 10 59 (by kernel_rfl) rfl⟩, ?_⟩
              have e61 : a.eval (.tmp 61) = .int .i64 k := hd 12 61 (by kernel_rfl) rfl
              clear hb hd
              simp only [execOp, *]
              go_simp
              exact ⟨Keeps.refl _ _, rfl⟩
            · intro a w' hk hb hd
              refine ⟨⟨_, rfl, hd 10 59 (by kernel_rfl) rfl⟩, ?_⟩
              have e60 : a.eval (.tmp 60) = .slice (some ⟨T, 0, none⟩) 7 7 := hd 11 60 (by kernel_rfl) rfl
              have e62 : a.eval (.tmp 62) = .int .i64 p := hd 13 62 (by kernel_rfl) rfl
              clear hb hd
              simp only [execOp, *]
              go_simp
              exact ⟨Keeps.refl _ _, rfl⟩
            · intro a w' hk hb hd
              refine ⟨⟨_, rfl, hd 10 59 (by kernel_rfl) rfl⟩, ?_⟩
              have e63 : a.eval (.tmp 63) = .pointer (some ⟨T, p, none⟩) := hd 14 63 (by kernel_rfl) rfl
              have cT := (hk.cell (p := ⟨T, p, none⟩) lT (fun x => x)).trans hcp
              have lT2 := Nat.lt_of_lt_of_le lT hk.size
              clear hb hd
              simp only [execOp, *]
              go_simp
              exact ⟨Keeps.refl _ _, rfl⟩
            · intro a w' hk hb hd
              refine ⟨⟨_, rfl, hd 10 59 (by kernel_rfl) rfl⟩, ?_⟩
              have e3 : a.eval (.tmp 3) = .slice (some ⟨L, 0, none⟩) 4 4 := hb (3, .slice (some ⟨L, 0, none⟩) 4 4) (by simp)
              clear hb hd
              simp only [execOp, *]
              exact ⟨Keeps.refl _ _, rfl⟩
            · intro a w' hk hb hd
              refine ⟨⟨_, rfl, hd 10 59 (by kernel_rfl) rfl⟩, ?_⟩
              have e4 : a.eval (.tmp 4) = .int .i64 n := hb (4, .int .i64 n) (by simp)
              clear hb hd
              simp only [execOp, *]
              exact ⟨Keeps.refl _ _, rfl⟩
            · intro a w' hk hb hd
              refine ⟨⟨_, rfl, hd 10 59 (by kernel_rfl) rfl⟩, ?_⟩
              have e65 : a.eval (.tmp 65) = .slice (some ⟨L, 0, none⟩) 4 4 := hd 16 65 (by kernel_rfl) rfl
              have e66 : a.eval (.tmp 66) = .int .i64 n := hd 17 66 (by kernel_rfl) rfl
              clear hb hd
              simp only [execOp, Option.map_some, Option.map_none, *]
              go_simp
              exact ⟨Keeps.refl _ _, rfl⟩
            · intro a w' hk hb hd
              refine ⟨⟨_, rfl, hd 10 59 (by kernel_rfl) rfl⟩, ?_⟩
              have e64 : a.eval (.tmp 64) = .slice ap np cp := hd 15 64 (by kernel_rfl) rfl
              have e67 : a.eval (.tmp 67) = .slice (some ⟨L, 0, none⟩) n 4 := hd 18 67 (by kernel_rfl) rfl
              have f64 : (a.tmps[64]?).getD undef = .slice ap np cp := (eval_tmp a 64).symm.trans e64
              have f67 : (a.tmps[67]?).getD undef = .slice (some ⟨L, 0, none⟩) n 4 := (eval_tmp a 67).symm.trans e67
              clear hb hd
              have hc := pairs_fit HF2.out HF1.out hk
              simp only [execOp, *]
              go_simp
              exact hc.mono fun e w2 ⟨he, hk2⟩ => ⟨_, he, hk2, rfl⟩
            · intro a w' hk hb hd
              refine ⟨⟨_, rfl, hd 10 59 (by kernel_rfl) rfl⟩, ?_⟩
              have e68 : a.eval (.tmp 68) = .bool true := hd 19 68 (by kernel_rfl) rfl
              clear hb hd
              simp only [execOp, *]
              exact ⟨Keeps.refl _ _, rfl⟩
            · intro a w' hk hb hd
              refine ⟨trivial, ?_⟩
              have e59 : a.eval (.tmp 59) = .bool false := hd 10 59 (by kernel_rfl) rfl
              have e69 : a.eval (.tmp 69) = .bool false := hd 20 69 (by kernel_rfl) rfl
              clear hb hd
              simp only [execOp, *]
              exact ⟨Keeps.refl _ _, rfl⟩
            · intro a w' hk hb hd
              refine ⟨trivial, ?_⟩
              have e70 : a.eval (.tmp 70) = .bool false := hd 21 70 (by kernel_rfl) rfl
              clear hb hd
              simp only [execOp, *]
              exact ⟨Keeps.refl _ _, rfl⟩
            · intro a w' hk hb hd
              refine ⟨⟨_, rfl, hd 22 71 (by kernel_rfl) rfl⟩, ?_⟩
              have e3 : a.eval (.tmp 3) = .slice (some ⟨L, 0, none⟩) 4 4 := hb (3, .slice (some ⟨L, 0, none⟩) 4 4) (by simp)
              clear hb hd
              simp only [execOp, *]
              exact ⟨Keeps.refl _ _, rfl⟩
            · intro a w' hk hb hd
              refine ⟨⟨_, rfl, hd 22 71 (by kernel_rfl) rfl⟩, ?_⟩
              have e4 : a.eval (.tmp 4) = .int .i64 n := hb (4, .int .i64 n) (by simp)
              clear hb hd
              simp only [execOp, *]
              exact ⟨Keeps.refl _ _, rfl⟩
            · intro a w' hk hb hd
              refine ⟨⟨_, rfl, hd 22 71 (by kernel_rfl) rfl⟩, ?_⟩
              have e72 : a.eval (.tmp 72) = .slice (some ⟨L, 0, none⟩) 4 4 := hd 23 72 (by kernel_rfl) rfl
              have e73 : a.eval (.tmp 73) = .int .i64 n := hd 24 73 (by kernel_rfl) rfl
              clear hb hd
              simp only [execOp, Option.map_some, Option.map_none, *]
              go_simp
              exact ⟨Keeps.refl _ _, rfl⟩
            · intro a w' hk hb hd
              refine ⟨⟨_, rfl, hd 22 71 (by kernel_rfl) rfl⟩, ?_⟩
              clear hb hd
              have hn := isL_new w' [0] (by simp)
              simp only [execOp]
              go_simp
              exact ⟨(Keeps.refl _ _).alloc _, hn⟩
            · intro a w' hk hb hd
              refine ⟨⟨_, rfl, hd 22 71 (by kernel_rfl) rfl⟩, ?_⟩
              clear hb hd
              have hn := isL_new w' [1, 0] (by simp)
              simp only [execOp]
              go_simp
              exact ⟨(Keeps.refl _ _).alloc _, hn⟩
            · intro a w' hk hb hd
              refine ⟨⟨_, rfl, hd 22 71 (by kernel_rfl) rfl⟩, ?_⟩
              clear hb hd
              have hn := isL_new w' [2, 1] (by simp)
              simp only [execOp]
              go_simp
              exact ⟨(Keeps.refl _ _).alloc _, hn⟩
            · intro a w' hk hb hd
              refine ⟨⟨_, rfl, hd 22 71 (by kernel_rfl) rfl⟩, ?_⟩
              clear hb hd
              have hn := isL_new w' [0, 0] (by simp)
              simp only [execOp]
              go_simp
              exact ⟨(Keeps.refl _ _).alloc _, hn⟩
            · intro a w' hk hb hd
              refine ⟨⟨_, rfl, hd 22 71 (by kernel_rfl) rfl⟩, ?_⟩
              obtain ⟨b75, e75, g75⟩ := hd 26 75 (by kernel_rfl) rfl
              replace e75 : a.eval (.tmp 75) = .slice (some ⟨b75, 0, none⟩) 1 1 := e75
              have f75 := (eval_tmp a 75).symm.trans e75
              obtain ⟨b76, e76, g76⟩ := hd 27 76 (by kernel_rfl) rfl
              replace e76 : a.eval (.tmp 76) = .slice (some ⟨b76, 0, none⟩) 2 2 := e76
              have f76 := (eval_tmp a 76).symm.trans e76
              obtain ⟨b77, e77, g77⟩ := hd 28 77 (by kernel_rfl) rfl
              replace e77 : a.eval (.tmp 77) = .slice (some ⟨b77, 0, none⟩) 2 2 := e77
              have f77 := (eval_tmp a 77).symm.trans e77
              obtain ⟨b78, e78, g78⟩ := hd 29 78 (by kernel_rfl) rfl
              replace e78 : a.eval (.tmp 78) = .slice (some ⟨b78, 0, none⟩) 2 2 := e78
              have f78 := (eval_tmp a 78).symm.trans e78
              have hrr := rows_allL (w := w') (vs := [.slice (some ⟨b75, 0, none⟩) 1 1, .slice (some ⟨b76, 0, none⟩) 2 2, .slice (some ⟨b77, 0, none⟩) 2 2, .slice (some ⟨b78, 0, none⟩) 2 2]) (xss := next4) ⟨⟨_, rfl, g75⟩, ⟨_, rfl, g76⟩, ⟨_, rfl, g77⟩, ⟨_, rfl, g78⟩, trivial⟩ (n := n) (by show n ≤ 4; exact HN4.out) (by decide)
              clear hb hd g75 g76 g77 g78
              simp only [execOp, *]
              go_simp
              exact ⟨(Keeps.refl _ _).alloc _, _, rfl, hrr⟩
            · intro a w' hk hb hd
              refine ⟨⟨_, rfl, hd 22 71 (by kernel_rfl) rfl⟩, ?_⟩
              have e4 : a.eval (.tmp 4) = .int .i64 n := hb (4, .int .i64 n) (by simp)
              clear hb hd
              simp only [execOp, *]
              exact ⟨Keeps.refl _ _, rfl⟩
            · intro a w' hk hb hd
              refine ⟨⟨_, rfl, hd 22 71 (by kernel_rfl) rfl⟩, ?_⟩
              have e80 : a.eval (.tmp 80) = .int .i64 n := hd 31 80 (by kernel_rfl) rfl
              obtain ⟨b79, e79, g79⟩ := hd 30 79 (by kernel_rfl) rfl
              clear hb hd
              simp only [execOp, Option.map_some, Option.map_none, *]
              go_simp
              exact ⟨Keeps.refl _ _, _, rfl, g79⟩
            · intro a w' hk hb hd
              refine ⟨⟨_, rfl, hd 22 71 (by kernel_rfl) rfl⟩, ?_⟩
              have e74 : a.eval (.tmp 74) = .slice (some ⟨L, 0, none⟩) n 4 := hd 25 74 (by kernel_rfl) rfl
              have f74 : (a.tmps[74]?).getD undef = .slice (some ⟨L, 0, none⟩) n 4 := (eval_tmp a 74).symm.trans e74
              obtain ⟨b81, e81, g81⟩ := hd 32 81 (by kernel_rfl) rfl
              have f81 := (eval_tmp a 81).symm.trans e81
              have hc := steps_fit (cap2 := 4) HF1.out hk g81 (by have := HN4.out; omega) (take_small (fun i => (next4_small.2 i).2) n)
              clear hb hd g81
              simp only [execOp, *]
              go_simp
              exact hc.mono fun e w2 ⟨he, hk2⟩ => ⟨_, he, hk2, rfl⟩
            · intro a w' hk hb hd
              refine ⟨⟨_, rfl, hd 22 71 (by kernel_rfl) rfl⟩, ?_⟩
              have e82 : a.eval (.tmp 82) = .bool true := hd 33 82 (by kernel_rfl) rfl
              clear hb hd
              simp only [execOp, *]
              exact ⟨Keeps.refl _ _, rfl⟩
            · intro a w' hk hb hd
              refine ⟨trivial, ?_⟩
              have e71 : a.eval (.tmp 71) = .bool false := hd 22 71 (by kernel_rfl) rfl
              have e83 : a.eval (.tmp 83) = .bool false := hd 34 83 (by kernel_rfl) rfl
              clear hb hd
              simp only [execOp, *]
              exact ⟨Keeps.refl _ _, rfl⟩
          · intro vs w2 hk2 hf
            have h84 : vs 84 = .bool false := mFacts_at hf 35 84 rfl
            clear hf
            simp only [putAll, dst9, Act.put, List.setIfInBounds_toArray, List.set_cons_succ, List.set_cons_zero]
            rw [h84]
            go_wp2_with fail
            go_roundw
            case rel => exact ⟨n + 1, by omega, by go_num, HKi.out.then hk2⟩
            case measure => simp [intOf]; omega
        · have hn5 : n = 5 := by omega
          subst hn5
          go_wp2_with fail
          go_roundw
          case rel => exact ⟨k + 1, by omega, by go_num, HKl.out.then HKi.out⟩
          case measure => simp [intOf]; omega
    · have hk625 : k = 625 := by omega
      subst hk625
      replace HK := hide (HK0.out.then HK.out)
      clear HR0 HK0 HTs
      obtain ⟨w0, hw0⟩ : ∃ z, z = wr := ⟨_, rfl⟩
      subst hw0
      go_wp2_with fail
      go_loopw [87] (fun t wr => ∃ k : Nat, k ≤ 729 ∧ t = .int .i64 k ∧ Hid (Keeps Non w0 wr)) (fun t _ => 729 - (intOf t).toNat)
      case atStart => exact ⟨0, by omega, rfl, Keeps.refl _ _⟩
      case round =>
        obtain ⟨k, hk, rfl, HKj⟩ := hrel
        by_cases hlt : k < 729
        · have k0 : (k : Int) < 729 := by omega
          have k1 : (0 : Int) ≤ (k : Int) := by omega
          have HKb : Hid (Keeps Non w0 wr) := HKj.out
          clear HKj
          have HO0 := hide (lay1_own wr ((k : Int) % 3) ((k : Int) % 27 / 3 % 3) ((k : Int) % 27 / 9))
          have HKl := hide (HKb.out.then (lay1_keeps wr ((k : Int) % 3) ((k : Int) % 27 / 3 % 3) ((k : Int) % 27 / 9)))
          go_wp2_with fail
          rw [show ((((wr.alloc (.cells #[.int .i64 ((k : Int) % 3)] 3)).alloc (.cells #[.int .i64 ((k : Int) % 27 / 3 % 3)] 3)).alloc (.cells #[.int .i64 ((k : Int) % 27 / 9)] 3)).alloc (.cells #[.slice (some ⟨wr.heap.size, 0, none⟩) 1 1, .slice (some ⟨wr.heap.size + 1, 0, none⟩) 1 1, .slice (some ⟨wr.heap.size + 1 + 1, 0, none⟩) 1 1] 22)) = lay1 wr ((k : Int) % 3) ((k : Int) % 27 / 3 % 3) ((k : Int) % 27 / 9) from rfl]
          obtain ⟨W2, hW2⟩ : ∃ z, lay1 wr ((k : Int) % 3) ((k : Int) % 27 / 3 % 3) ((k : Int) % 27 / 9) = z := ⟨_, rfl⟩
          have HBs : Hid (w0.heap.size ≤ wr.heap.size) := HKb.out.size
          obtain ⟨bs, hbs⟩ : ∃ z, wr.heap.size = z := ⟨_, rfl⟩
          obtain ⟨g, hg⟩ : ∃ z, bs + 1 + 1 + 1 = z := ⟨_, rfl⟩
          obtain ⟨xs0, hx0⟩ : ∃ z, [[(k : Int) % 3], [(k : Int) % 27 / 3 % 3], [(k : Int) % 27 / 9]] = z := ⟨_, rfl⟩
          have HX0 : Hid (xs0.length = 3) := by rw [← hx0]; rfl
          have HX1 : Hid (∀ j, (xs0.getD j []).length ≤ 1) := fun j => by
            rw [← hx0]
            match j with
            | 0 => simp
            | 1 => simp
            | 2 => simp
            | j + 3 => simp
          rw [hW2, hbs, hg, hx0] at HO0
          rw [hbs] at HBs
          rw [hW2] at HKl ⊢
          try rw [hbs, hg]
          have HGb : Hid (w0.heap.size ≤ g) := by have := HBs.out; show _ ≤ _; omega
          have HGs : Hid (bs + 1 + 1 + 1 = g) := hg
          clear hW2 hbs hg hx0 HKb
          obtain ⟨tw, htw⟩ : ∃ tw : Int, (k : Int) / 27 = tw := ⟨_, rfl⟩
          have tw0 : 0 ≤ tw := by omega
          have tw1 : tw ≤ 26 := by omega
          obtain ⟨w1, hw1⟩ : ∃ z, z = wr := ⟨_, rfl⟩
          subst hw1
          rw [htw, show (k : Int) % 27 % 3 = (k : Int) % 3 by omega]
          clear htw
          go_loopw [107] (fun t wx => ∃ (i : Nat) (S : List Value) (xss : List (List Int)), i ≤ 3 ∧ t = .int .i64 i ∧ xss.length = 3 ∧ Hid (∀ j, (xss.getD j []).length ≤ i + 1) ∧ Hid (OwnAt bs g wx S xss) ∧ Hid (Keeps Non w0 wx)) (fun t _ => 3 - (intOf t).toNat)
          case atStart => exact ⟨0, _, _, by omega, rfl, HX0.out, HX1.out, HO0.out, HKl.out⟩
          case round =>
            clear HO0 HKl HX0 HX1
            obtain ⟨i, S, xss, hi3, rfl, hxl, HXs, HA, HKi⟩ := hrel
            by_cases hil : i < 3
            · have i0' : (i : Int) < 3 := by omega
              have i1' : (0 : Int) ≤ (i : Int) := by omega
              by_cases h5 : (0 : Int) < (k : Int) % 5
              · have hsl := HXs.out i
                obtain ⟨v, hv, ho⟩ := HA.out.row i (by omega)
                have HV := hide hv
                have HXl := hide hxl
                have cb : wr.cell? ⟨g, i, none⟩ = some v := by rw [HA.out.blk.cell]; exact hv
                have fb := HA.out.blk.free i none
                have lb := HA.out.blk.lt
                obtain ⟨ys, hys⟩ : ∃ ys, xss.getD i [] = ys := ⟨_, rfl⟩
                rw [hys] at ho hsl
                obtain ⟨q, hq⟩ : ∃ q, ys.length = q := ⟨_, rfl⟩
                rw [hq] at ho hsl
                have HO := hide ho
                have HQ := hide hq
                have HYs := hide hys
                obtain ⟨A, hA⟩ : ∃ A, tw % 3 = A := ⟨_, rfl⟩
                obtain ⟨B0, hB0⟩ : ∃ A, tw / 3 = A := ⟨_, rfl⟩
                obtain ⟨B, hB⟩ : ∃ A, B0 % 3 = A := ⟨_, rfl⟩
                obtain ⟨C, hC⟩ : ∃ A, tw / 9 = A := ⟨_, rfl⟩
                have t1 : tw.tmod 3 = A := by rw [Int.tmod_eq_emod_of_nonneg (by omega)]; exact hA
                have t2 : tw.tdiv 3 = B0 := by rw [Int.tdiv_eq_ediv_of_nonneg (by omega)]; exact hB0
                have t3 : B0.tmod 3 = B := by rw [Int.tmod_eq_emod_of_nonneg (by omega)]; exact hB
                have t4 : tw.tdiv 9 = C := by rw [Int.tdiv_eq_ediv_of_nonneg (by omega)]; exact hC
                have u1 : IntKind.i64.wrap A = A := IntWalk.i64_in _ (by omega)
                have u2 : IntKind.i64.wrap B0 = B0 := IntWalk.i64_in _ (by omega)
                have u3 : IntKind.i64.wrap B = B := IntWalk.i64_in _ (by omega)
                have u4 : IntKind.i64.wrap C = C := IntWalk.i64_in _ (by omega)
                obtain ⟨x, hx⟩ : ∃ x, ([Value.int .i64 A, .int .i64 B, .int .i64 C] : List Value)[i]'(by simpa using hil) = .int .i64 x := by
                  match i, hil with
                  | 0, _ => exact ⟨_, rfl⟩
                  | 1, _ => exact ⟨_, rfl⟩
                  | 2, _ => exact ⟨_, rfl⟩
                obtain ⟨va, vc, rfl⟩ := owns_slice ho
                have hgB : some g ≠ (Value.slice va q vc).ownBlock := fun e => HA.out.off i _ hv e.symm
                have HL5 : Hid (∀ w5, ((wr.alloc (.cells #[.int .i64 A, .int .i64 B, .int .i64 C] 3)).alloc (.cells #[.int .i64 x] 3)).drew.grownBy w5 (Value.slice va q vc).ownBlock → w5.cell? ⟨g, i, none⟩ = some (.slice va q vc) ∧ w5.frozen? ⟨g, i, none⟩ = false ∧ g < w5.heap.size) := fun w5 hgrow => by
                  have kk : Keeps Non wr (((wr.alloc (.cells #[.int .i64 A, .int .i64 B, .int .i64 C] 3)).alloc (.cells #[.int .i64 x] 3)).drew) := (((Keeps.refl Non wr).alloc _).alloc _).drew
                  have ll := Nat.lt_of_lt_of_le lb kk.size
                  exact ⟨(World.cell?_of_block (hgrow.block g ll hgB)).trans ((kk.cell (p := ⟨g, i, none⟩) lb (fun x => x)).trans cb), (World.frozen?_of_block (hgrow.block g ll hgB)).trans ((kk.frozen (p := ⟨g, i, none⟩) lb (fun x => x)).trans fb), Nat.lt_of_lt_of_le ll hgrow.size⟩
                have HN5 : Hid (∀ v' w5, w5.ownsRow bs 3 1 v' (q + 1) ((ys.map (Value.int .i64)) ++ [.int .i64 x]) → ((wr.alloc (.cells #[.int .i64 A, .int .i64 B, .int .i64 C] 3)).alloc (.cells #[.int .i64 x] 3)).drew.grownBy w5 (Value.slice va q vc).ownBlock → (v'.ownBlock = (Value.slice va q vc).ownBlock ∨ v'.ownBlock = some (((wr.alloc (.cells #[.int .i64 A, .int .i64 B, .int .i64 C] 3)).alloc (.cells #[.int .i64 x] 3)).drew).heap.size) →
                    OwnAt bs g (w5.setCell ⟨g, i, none⟩ v') (S.set i v') (xss.set i (ys ++ [x])) ∧ Keeps Non w0 (w5.setCell ⟨g, i, none⟩ v') ∧ (xss.set i (ys ++ [x])).length = 3 ∧ ∀ j, ((xss.set i (ys ++ [x])).getD j []).length ≤ i + 1 + 1) := fun v' w5 hown hgrow hat => by
                  refine ⟨?_, ?_, by simp [HXl.out], fun j => ?_⟩
                  · refine HA.out.put (by rw [HXl.out]; exact hil) HV.out ((((Keeps.refl Non wr).alloc _).alloc _).drew) ?_ hgrow (hat.imp id fun e g2 hg2 => ?_)
                    · rw [List.length_append, List.map_append, HQ.out]
                      exact hown
                    · rw [e] at hg2
                      cases hg2
                      simp
                      omega
                  · exact (keeps_grown (((HKi.out.alloc _).alloc _).drew) hgrow (fun g2 hg2 => .inr (by have := own_ge HO.out g2 hg2; have := HBs.out; omega))).set (.inr HGb.out) _
                  · rw [getD_set (by rw [HXl.out]; exact hil)]
                    split
                    · rw [List.length_append, HQ.out]
                      show q + 1 ≤ _
                      omega
                    · have := HXs.out j
                      omega
                have HC1 : Hid (∀ j u, ([.int .i64 x] : List Value)[j]? = some u → (((wr.alloc (.cells #[.int .i64 A, .int .i64 B, .int .i64 C] 3)).alloc (.cells #[.int .i64 x] 3)).drew).cell? ((⟨wr.heap.size + 1, 0, none⟩ : Addr).add j) = some u) := fun j u hj => by
                  have h := cell_one_new (wr.alloc (.cells #[.int .i64 A, .int .i64 B, .int .i64 C] 3)) (.int .i64 x) 3 j u hj
                  rw [World.size_alloc] at h
                  exact h
                have hbl : bs ≤ wr.heap.size := by have := HGs.out; omega
                clear hv ho hys hq hgB hxl
                obtain ⟨i8, hi8, hz0, hz1, hz2⟩ := info3_parts
                go_upto_region 22 with fail
                go_region_law (refine step_append_at rfl _ _ 22 rfl bs 3 i8 (.int .i64 0) 1 8 Try.underlying22 hi8 hz0 hz1 hz2 rfl (by decide) (.slice va q vc) q (ys.map (Value.int .i64)) (by rfl) (owns_keeps HO.out ((((Keeps.refl Non wr).alloc (.cells #[.int .i64 A, .int .i64 B, .int .i64 C] 3)).alloc (.cells #[.int .i64 x] 3)).drew) (fun _ _ x => x)) ⟨wr.heap.size + 1, 0, none⟩ 1 1 [.int .i64 x] (by rfl) rfl HC1.out (by intro u hu; simp at hu; subst hu; rfl) (by unfold maxLen; omega) (by omega) (by simp; omega) ?_; intro v' w5 hown hgrow hat; obtain ⟨a5, c5, rfl⟩ := owns_slice hown; obtain ⟨cb5, fb5, lb5⟩ := HL5.out w5 hgrow)
                all_goals
                  obtain ⟨HAn, HKn, hln, hsn⟩ := HN5.out _ w5 hown hgrow hat
                  have HAm := hide HAn
                  have HKm := hide HKn
                  have HSn := hide hsn
                  have HLn := hide hln
                  clear hown hgrow hat cb5 fb5 lb5 HAn HKn hsn hln HC1 HN5 HL5 hx
                  go_wp2_with fail
                  go_roundw
                  case rel => first | exact ⟨i + 1, _, _, by omega, by go_num, HLn.out, HSn.out, HAm.out, HKm.out⟩ | ((repeat apply Exists.intro); exact ⟨⟨i + 1, _, _, by omega, by go_num, HLn.out, HSn.out, HAm.out, HKm.out⟩, rfl⟩)
                  case measure => simp [intOf]; omega
              · have h5b : decide ((0 : Int) < (k : Int) % 5) = false := by simp; omega
                go_wp2_with fail
                go_roundw
                case rel => exact ⟨i + 1, _, _, by omega, by go_num, hxl, fun j => Nat.le_succ_of_le (HXs.out j), HA.out, HKi.out⟩
                case measure => simp [intOf]; omega
            · have hi3' : i = 3 := by omega
              subst hi3'
              have hRr := HA.out.rows (by omega) (fun j => by have := HXs.out j; omega)
              rw [hxl] at hRr
              have HRn := hide hRr
              have HP0 := hide (layR_rows wr part5 (lay_part5_at wr) (by decide) part5_small.1 (n := 5) (by decide))
              have HKp := hide (layR_keeps wr part5)
              have hlp := lay_part5 wr
              obtain ⟨W3, hW3⟩ : ∃ z, layR wr part5 = z := ⟨_, rfl⟩
              obtain ⟨U, hU⟩ : ∃ z, wr.heap.size + 1 + 1 + 1 + 1 + 1 = z := ⟨_, rfl⟩
              rw [hW3] at hlp HP0 HKp
              rw [hU] at HP0
              have HRp := hide (HRn.out.non HKp.out)
              have HKq := hide (HKi.out.then HKp.out)
              have HLp := hide hlp
              have HUs := hide hU
              clear hRr HA hW3 hlp hU HRn HKi HKp
              go_wp2_with fail
              rw [← HLp.out, HUs.out]
              clear HLp HUs
              obtain ⟨w1, hw1⟩ : ∃ z, z = wr := ⟨_, rfl⟩
              subst hw1
              go_loopw [141] (fun t wx => ∃ q : Nat, q ≤ 5 ∧ t = .int .i64 q ∧ Hid (Keeps Non W3 wx)) (fun t _ => 5 - (intOf t).toNat)
              case atStart => exact ⟨0, by omega, rfl, Keeps.refl _ _⟩
              case round =>
                obtain ⟨q, hq, rfl, HKr⟩ := hrel
                by_cases hql : q < 5
                · have q0 : (q : Int) < 5 := by omega
                  have q1 : (0 : Int) ≤ (q : Int) := by omega
                  have HPr := HP0.out.non HKr.out
                  obtain ⟨b9, off, hb9, lU, hcU⟩ := HPr.at (by omega)
                  cases hb9
                  obtain ⟨ap, cp, hcp, hip⟩ := hcU q hql
                  rw [Nat.zero_add] at hcp
                  obtain ⟨sp, hsp⟩ : ∃ z, (List.take 5 part5).getD q [] = z := ⟨_, rfl⟩
                  have hgp : Good sp ∧ sp.length ≤ 1000 := by rw [← hsp]; exact part5_small.2 q
                  rw [hsp] at hcp hip
                  obtain ⟨np, hnp⟩ : ∃ z, sp.length = z := ⟨_, rfl⟩
                  rw [hnp] at hcp hip hgp
                  have HF2 : FitI wr (.slice ap np cp) := ⟨_, _, _, _, rfl, hip, hgp.1, hgp.2⟩
                  have HC := hide (steps_fit (cap2 := 3) HF2 (Keeps.refl Non wr) (HRp.out.non HKr.out) (by omega) (fun j => by have := HXs.out j; omega))
                  clear hip hgp hsp hnp hcU HPr HF2
                  go_wp2_with fail
                  refine HC.out.mono ?_
                  rintro e x1 ⟨rfl, hk1⟩
                  go_wp2_with fail
                  go_roundw
                  case rel => first | exact ⟨q + 1, by omega, by go_num, HKr.out.then hk1⟩ | ((repeat apply Exists.intro); exact ⟨⟨q + 1, by omega, by go_num, HKr.out.then hk1⟩, rfl⟩)
                  case measure => simp [intOf]; omega
                · have hq5 : q = 5 := by omega
                  subst hq5
                  go_wp2_with fail
                  go_roundw
                  case rel => first | exact ⟨k + 1, by omega, by go_num, HKq.out.then HKr.out⟩ | ((repeat apply Exists.intro); exact ⟨⟨k + 1, by omega, by go_num, HKq.out.then HKr.out⟩, rfl⟩)
                  case measure => simp [intOf]; omega
        · have hk729 : k = 729 := by omega
          subst hk729
          replace HK := hide (HK.out.then HKj.out)
          clear HKj
          obtain ⟨w1, hw1⟩ : ∃ z, z = wr := ⟨_, rfl⟩
          subst hw1
          go_upto_region 31 with fail
          refine wp_region_mono dst31 [] G31 (by kernel_rfl) (by kernel_rfl) g31_stable (fun _ h => by cases h) ?_ ?_
          · refine ⟨?_, ?_, ?_, ?_, ?_, ?_, ?_, ?_, ?_, ?_, ?_, ?_, ?_, ?_, ?_, trivial⟩
            · intro a w' hk hb hd
              refine ⟨trivial, ?_⟩
              have hn := isR_nil w'
              clear hb hd
              simp only [execOp]
              go_simp
              exact ⟨(Keeps.refl _ _).alloc _, hn⟩
            · intro a w' hk hb hd
              refine ⟨trivial, ?_⟩
              have hn := isL_new w' [0] (by simp)
              clear hb hd
              simp only [execOp]
              go_simp
              exact ⟨(Keeps.refl _ _).alloc _, hn⟩
            · intro a w' hk hb hd
              refine ⟨trivial, ?_⟩
              have hn := isL_new w' [0] (by simp)
              clear hb hd
              simp only [execOp]
              go_simp
              exact ⟨(Keeps.refl _ _).alloc _, hn⟩
            · intro a w' hk hb hd
              refine ⟨trivial, ?_⟩
              obtain ⟨b152, e152, g152⟩ := hd 1 152 (by kernel_rfl) rfl
              replace e152 : a.eval (.tmp 152) = .slice (some ⟨b152, 0, none⟩) 1 1 := e152
              have f152 := (eval_tmp a 152).symm.trans e152
              obtain ⟨b153, e153, g153⟩ := hd 2 153 (by kernel_rfl) rfl
              replace e153 : a.eval (.tmp 153) = .slice (some ⟨b153, 0, none⟩) 1 1 := e153
              have f153 := (eval_tmp a 153).symm.trans e153
              have hn := isR_allL (w := w') (vs := [.slice (some ⟨b152, 0, none⟩) 1 1, .slice (some ⟨b153, 0, none⟩) 1 1]) (xss := [[0], [0]]) ⟨⟨_, rfl, g152⟩, ⟨_, rfl, g153⟩, trivial⟩ (by decide)
              clear hb hd g152 g153
              simp only [execOp, *]
              go_simp
              exact ⟨(Keeps.refl _ _).alloc _, hn⟩
            · intro a w' hk hb hd
              refine ⟨trivial, ?_⟩
              have hn := isL_new w' [-1] (by simp)
              clear hb hd
              simp only [execOp]
              go_simp
              exact ⟨(Keeps.refl _ _).alloc _, hn⟩
            · intro a w' hk hb hd
              refine ⟨trivial, ?_⟩
              obtain ⟨b155, e155, g155⟩ := hd 4 155 (by kernel_rfl) rfl
              replace e155 : a.eval (.tmp 155) = .slice (some ⟨b155, 0, none⟩) 1 1 := e155
              have f155 := (eval_tmp a 155).symm.trans e155
              have hn := isR_allL (w := w') (vs := [.slice (some ⟨b155, 0, none⟩) 1 1]) (xss := [[-1]]) ⟨⟨_, rfl, g155⟩, trivial⟩ (by decide)
              clear hb hd g155
              simp only [execOp, *]
              go_simp
              exact ⟨(Keeps.refl _ _).alloc _, hn⟩
            · intro a w' hk hb hd
              refine ⟨trivial, ?_⟩
              have hn := isL_new w' [1] (by simp)
              clear hb hd
              simp only [execOp]
              go_simp
              exact ⟨(Keeps.refl _ _).alloc _, hn⟩
            · intro a w' hk hb hd
              refine ⟨trivial, ?_⟩
              obtain ⟨b157, e157, g157⟩ := hd 6 157 (by kernel_rfl) rfl
              replace e157 : a.eval (.tmp 157) = .slice (some ⟨b157, 0, none⟩) 1 1 := e157
              have f157 := (eval_tmp a 157).symm.trans e157
              have hn := isR_allL (w := w') (vs := [.slice (some ⟨b157, 0, none⟩) 1 1]) (xss := [[1]]) ⟨⟨_, rfl, g157⟩, trivial⟩ (by decide)
              clear hb hd g157
              simp only [execOp, *]
              go_simp
              exact ⟨(Keeps.refl _ _).alloc _, hn⟩
            · intro a w' hk hb hd
              refine ⟨trivial, ?_⟩
              have hn := isL_made w' 64 (by omega)
              have hms : (Instr.makeSlice 22 (.int .i64 64) (.int .i64 64)).run Try.prog w' = .ok (.slice (some ⟨w'.heap.size, 0, none⟩) 64 64) (w'.alloc (.cells (Array.replicate 64 (.int .i64 0)) 3)) := make22 w' 64 (by omega)
              clear hb hd
              simp only [execOp]
              go_simp
              exact ⟨(Keeps.refl _ _).alloc _, hn⟩
            · intro a w' hk hb hd
              refine ⟨trivial, ?_⟩
              obtain ⟨b159, e159, g159⟩ := hd 8 159 (by kernel_rfl) rfl
              replace e159 : a.eval (.tmp 159) = .slice (some ⟨b159, 0, none⟩) 64 64 := e159
              have f159 := (eval_tmp a 159).symm.trans e159
              have hn := isR_allL (w := w') (vs := [.slice (some ⟨b159, 0, none⟩) 64 64]) (xss := [List.replicate 64 0]) ⟨⟨_, rfl, g159⟩, trivial⟩ (by decide)
              clear hb hd g159
              simp only [execOp, *]
              go_simp
              exact ⟨(Keeps.refl _ _).alloc _, hn⟩
            · intro a w' hk hb hd
              refine ⟨trivial, ?_⟩
              have hn := isL_made w' 65 (by omega)
              have hms : (Instr.makeSlice 22 (.int .i64 65) (.int .i64 65)).run Try.prog w' = .ok (.slice (some ⟨w'.heap.size, 0, none⟩) 65 65) (w'.alloc (.cells (Array.replicate 65 (.int .i64 0)) 3)) := make22 w' 65 (by omega)
              clear hb hd
              simp only [execOp]
              go_simp
              exact ⟨(Keeps.refl _ _).alloc _, hn⟩
            · intro a w' hk hb hd
              refine ⟨trivial, ?_⟩
              obtain ⟨b161, e161, g161⟩ := hd 10 161 (by kernel_rfl) rfl
              replace e161 : a.eval (.tmp 161) = .slice (some ⟨b161, 0, none⟩) 65 65 := e161
              have f161 := (eval_tmp a 161).symm.trans e161
              have hn := isR_allL (w := w') (vs := [.slice (some ⟨b161, 0, none⟩) 65 65]) (xss := [List.replicate 65 0]) ⟨⟨_, rfl, g161⟩, trivial⟩ (by decide)
              clear hb hd g161
              simp only [execOp, *]
              go_simp
              exact ⟨(Keeps.refl _ _).alloc _, hn⟩
            · intro a w' hk hb hd
              refine ⟨trivial, ?_⟩
              have r151 := hd 0 151 (by kernel_rfl) rfl
              obtain ⟨b151, e151, g151⟩ := hd 0 151 (by kernel_rfl) rfl
              replace e151 : a.eval (.tmp 151) = .slice (some ⟨b151, 0, none⟩) 1 1 := e151
              have f151 := (eval_tmp a 151).symm.trans e151
              have r154 := hd 3 154 (by kernel_rfl) rfl
              obtain ⟨b154, e154, g154⟩ := hd 3 154 (by kernel_rfl) rfl
              replace e154 : a.eval (.tmp 154) = .slice (some ⟨b154, 0, none⟩) 2 2 := e154
              have f154 := (eval_tmp a 154).symm.trans e154
              have r156 := hd 5 156 (by kernel_rfl) rfl
              obtain ⟨b156, e156, g156⟩ := hd 5 156 (by kernel_rfl) rfl
              replace e156 : a.eval (.tmp 156) = .slice (some ⟨b156, 0, none⟩) 1 1 := e156
              have f156 := (eval_tmp a 156).symm.trans e156
              have r158 := hd 7 158 (by kernel_rfl) rfl
              obtain ⟨b158, e158, g158⟩ := hd 7 158 (by kernel_rfl) rfl
              replace e158 : a.eval (.tmp 158) = .slice (some ⟨b158, 0, none⟩) 1 1 := e158
              have f158 := (eval_tmp a 158).symm.trans e158
              have r160 := hd 9 160 (by kernel_rfl) rfl
              obtain ⟨b160, e160, g160⟩ := hd 9 160 (by kernel_rfl) rfl
              replace e160 : a.eval (.tmp 160) = .slice (some ⟨b160, 0, none⟩) 1 1 := e160
              have f160 := (eval_tmp a 160).symm.trans e160
              have r162 := hd 11 162 (by kernel_rfl) rfl
              obtain ⟨b162, e162, g162⟩ := hd 11 162 (by kernel_rfl) rfl
              replace e162 : a.eval (.tmp 162) = .slice (some ⟨b162, 0, none⟩) 1 1 := e162
              have f162 := (eval_tmp a 162).symm.trans e162
              have hn := is7_new r151 r154 r156 r158 r160 r162
              rw [e151, e154, e156, e158, e160, e162] at hn
              clear hb hd g151 r151 g154 r154 g156 r156 g158 r158 g160 r160 g162 r162
              simp only [execOp, *]
              go_simp
              exact ⟨(Keeps.refl _ _).alloc _, hn⟩
            · intro a w' hk hb hd
              refine ⟨trivial, ?_⟩
              obtain ⟨b163, S163, e163, g163, r163⟩ := hd 12 163 (by kernel_rfl) rfl
              have f163 := (eval_tmp a 163).symm.trans e163
              clear hb hd g163 r163
              simp only [execOp, *]
              go_simp
              exact ⟨Keeps.refl _ _, rfl⟩
            · intro a w' hk hb hd
              refine ⟨trivial, ?_⟩
              clear hb hd
              simp only [execOp]
              go_simp
              exact ⟨Keeps.refl _ _, rfl⟩
          · intro vs w2 hk2 hf
            obtain ⟨b, S, h163, hB7, hS7⟩ : Is7 w2 (vs 163) := mFacts_at hf 12 163 rfl
            have h164 : vs 164 = .int .i64 7 := mFacts_at hf 13 164 rfl
            have h165 : vs 165 = .int .i64 0 := mFacts_at hf 14 165 rfl
            clear hf
            simp only [putAll, dst31, Act.put, List.setIfInBounds_toArray, List.set_cons_succ, List.set_cons_zero]
            rw [h163, h164, h165]
            replace HK := hide (HK.out.then hk2)
            have HB7 := hide hB7
            have HS7 := hide hS7
            clear h163 h164 h165 hk2 hB7 hS7
            obtain ⟨w3, hw3⟩ : ∃ z, z = w2 := ⟨_, rfl⟩
            subst hw3
            go_wp2_with fail
            go_loopw [165] (fun t wx => ∃ q : Nat, q ≤ 7 ∧ t = .int .i64 q ∧ Hid (Keeps Non w3 wx)) (fun t _ => 7 - (intOf t).toNat)
            case atStart => exact ⟨0, by omega, rfl, Keeps.refl _ _⟩
            case round =>
              obtain ⟨q, hq, rfl, HKr⟩ := hrel
              by_cases hql : q < 7
              · have q0 : (q : Int) < 7 := by omega
                have q1 : (0 : Int) ≤ (q : Int) := by omega
                obtain ⟨an, cn, hSq, hRq⟩ := HS7.out q hql
                have hBr := HB7.out.keeps HKr.out (fun x => x)
                have cq := hBr.cell q
                rw [hSq] at cq
                have lb := hBr.lt
                have hlen := nexts_len q hql
                have hsm := nexts_small q
                obtain ⟨nx, hnx⟩ : ∃ z, nexts.getD q [] = z := ⟨_, rfl⟩
                rw [hnx] at cq hRq hlen hsm
                obtain ⟨m, hm⟩ : ∃ z, nx.length = z := ⟨_, rfl⟩
                rw [hm] at cq hRq hlen
                have HC : Hid (Calls Try.prog 24 #[.slice (some ⟨wr.heap.size, 0, none⟩) 1 1, .slice an m cn] (wr.alloc (.cells #[.int .i64 0] 3)) fun e w2 => e = .returned (.bool true) ∧ Keeps Non (wr.alloc (.cells #[.int .i64 0] 3)) w2) :=
                  steps_any (some ⟨wr.heap.size, 0, none⟩) an 1 m 1 cn [0] nx _ (ints_laid wr [0] rfl (by simp)) ((hRq.non HKr.out).non ((Keeps.refl Non wr).alloc _)) (good_small (by simp)) (by omega) hlen hsm
                clear hSq hBr hRq hlen hsm hnx hm
                go_wp2_with fail
                refine HC.out.mono ?_
                rintro e x1 ⟨rfl, hk1⟩
                go_wp2_with fail
                go_roundw
                case rel => first | exact ⟨q + 1, by omega, by go_num, (HKr.out.alloc _).then hk1⟩ | ((repeat apply Exists.intro); exact ⟨⟨q + 1, by omega, by go_num, (HKr.out.alloc _).then hk1⟩, rfl⟩)
                case measure => simp [intOf]; omega
              · have hq7 : q = 7 := by omega
                subst hq7
                replace HK := hide (HK.out.then HKr.out)
                clear HKr HB7 HS7
                have hms : (Instr.makeSlice 22 (.int .i64 1025) (.int .i64 1025)).run Try.prog wr = .ok (.slice (some ⟨wr.heap.size, 0, none⟩) 1025 1025) (wr.alloc (.cells (Array.replicate 1025 (.int .i64 0)) 3)) := make22 wr 1025 (by omega)
                obtain ⟨K, hK⟩ : ∃ z, wr.heap.size = z := ⟨_, rfl⟩
                have HB0 := hide (row_none wr (n := 1025) hK)
                have HK0 := hide (HK.out.alloc (.cells (Array.replicate 1025 (.int .i64 0)) 3))
                have HKs : Hid (w.heap.size ≤ K) := by have := HK.out.size; show _ ≤ _; omega
                obtain ⟨W0, hW0⟩ : ∃ z, wr.alloc (.cells (Array.replicate 1025 (.int .i64 0)) 3) = z := ⟨_, rfl⟩
                rw [hW0, hK] at hms
                rw [hW0] at HB0 HK0
                obtain ⟨w9, hw9⟩ : ∃ z, z = wr := ⟨_, rfl⟩
                subst hw9
                clear hK hW0 HK
                go_wp2_with fail
                clear hms
                go_loopw [177] (fun t wx => ∃ i : Nat, i ≤ 1025 ∧ t = .int .i64 i ∧ Hid (Blk wx K (rowL (upTo i) 1025) 3) ∧ Hid (Keeps Non w wx)) (fun t _ => 1025 - (intOf t).toNat)
                case atStart => exact ⟨0, by omega, rfl, HB0.out, HK0.out⟩
                case round =>
                  clear HB0 HK0
                  obtain ⟨i, hi, rfl, HB, HK⟩ := hrel
                  by_cases hil : i < 1025
                  · have i0' : (i : Int) < 1025 := by omega
                    have i1' : (0 : Int) ≤ (i : Int) := by omega
                    have cb : wr.cell? ⟨K, i, none⟩ = some (.int .i64 0) := by
                      rw [HB.out.cell]
                      exact rowL_at _ _ _ (by rw [upTo_length]; omega) hil
                    have fb := HB.out.free i none
                    have lb := HB.out.lt
                    have HBn := hide (row_up HB.out hil)
                    go_wp2_with fail
                    go_roundw
                    case rel => first | exact ⟨i + 1, by omega, by go_num, HBn.out, HK.out.set (.inr HKs.out) _⟩ | ((repeat apply Exists.intro); exact ⟨⟨i + 1, by omega, by go_num, HBn.out, HK.out.set (.inr HKs.out) _⟩, rfl⟩)
                    case measure => simp [intOf]; omega
                  · have hi1025 : i = 1025 := by omega
                    subst hi1025
                    have HI := hide (row_full HB.out (by omega))
                    obtain ⟨c, hc, hq⟩ := run_nan wr
                    have HCn := hide hc
                    have C1 : Hid (Calls Try.prog 39 #[.slice (some ⟨wr.heap.size, 0, none⟩) 4 4] ((wr.alloc (.cells #[.float .f64 4607182418800017408, .float .f64 c, .float .f64 4607182418800017408, .float .f64 c] 61)).drew) fun e w' => ∃ b, e = .returned (.tuple #[.slice (some ⟨b, 0, none⟩) 4 4, .int .i64 0]) ∧ Ints w' (some ⟨b, 0, none⟩) 4 ansF ∧ Keeps Non ((wr.alloc (.cells #[.float .f64 4607182418800017408, .float .f64 c, .float .f64 4607182418800017408, .float .f64 c] 61)).drew) w') :=
                      of_float wr.heap.size c _ (Blk.new wr [.float .f64 oneF, .float .f64 c, .float .f64 oneF, .float .f64 c] 61) hc
                    have HKd : Hid (Keeps Non wr ((wr.alloc (.cells #[.float .f64 4607182418800017408, .float .f64 c, .float .f64 4607182418800017408, .float .f64 c] 61)).drew)) := ((Keeps.refl Non wr).alloc _).drew
                    clear HB hc
                    go_wp2_with fail
                    refine C1.out.mono ?_
                    rintro e x1 ⟨b1, rfl, hI1, hk1⟩
                    have HI1 := hide hI1
                    have HI0 := hide (HI.out.non (HKd.out.then hk1))
                    replace HK := hide (HK.out.then (HKd.out.then hk1))
                    have C2 := hide (of_rest (n := 1024) rfl K 1024 x1 HI0.out)
                    clear hI1 hk1 C1 HKd hq HI
                    go_wp2_with fail
                    refine C2.out.mono ?_
                    rintro e x2 ⟨b2, rfl, hI2, hk2⟩
                    have HI2 := hide hI2
                    replace HI1 := hide (HI1.out.non hk2)
                    replace HI0 := hide (HI0.out.non hk2)
                    replace HK := hide (HK.out.then hk2)
                    clear hI2 hk2 C2
                    have hka := (Keeps.refl Non x2).alloc (.cells #[.int .i64 0, .int .i64 1, .int .i64 0, .int .i64 2] 3)
                    have C3 := hide (equal_any (some ⟨b1, 0, none⟩) 4 4 ansF (some ⟨x2.heap.size, 0, none⟩) 4 4 ansF (x2.alloc (.cells #[.int .i64 0, .int .i64 1, .int .i64 0, .int .i64 2] 3)) (HI1.out.non hka) (ints_laid x2 ansF rfl (by decide)))
                    rw [decide_eq_true (rfl : ansF = ansF)] at C3
                    have HKa := hide hka
                    clear hka
                    go_wp2_with fail
                    refine C3.out.mono ?_
                    rintro e x3 ⟨rfl, hk3⟩
                    have hk3' := HKa.out.then hk3
                    replace HI2 := hide (HI2.out.non hk3')
                    replace HI0 := hide (HI0.out.non hk3')
                    replace HK := hide (HK.out.then hk3')
                    have ht := HI0.out.take (m := 1024) (by omega)
                    rw [up_take (by omega)] at ht
                    have C4 := hide (equal_any (some ⟨b2, 0, none⟩) 1024 1024 (upTo 1024) (some ⟨K, 0, none⟩) 1024 1025 (upTo 1024) x3 HI2.out ht)
                    rw [decide_eq_true (rfl : upTo 1024 = upTo 1024)] at C4
                    clear hk3 hk3' C3 HKa HI1 ht
                    go_wp2_with fail
                    refine C4.out.mono ?_
                    rintro e x4 ⟨rfl, hk4⟩
                    replace HI2 := hide (HI2.out.non hk4)
                    replace HI0 := hide (HI0.out.non hk4)
                    replace HK := hide (HK.out.then hk4)
                    have C5 := hide (right_l (some ⟨b2, 0, none⟩) 1024 1024 (upTo 1024) x4 HI2.out (up_good (by omega)))
                    rw [up_right rfl] at C5
                    clear hk4 C4
                    go_wp2_with fail
                    refine C5.out.mono ?_
                    rintro e x5 ⟨rfl, hk5⟩
                    replace HI0 := hide (HI0.out.non hk5)
                    replace HK := hide (HK.out.then hk5)
                    have C6 := hide (right_l (some ⟨K, 0, none⟩) 1025 1025 (upTo 1025) x5 HI0.out (up_good (by omega)))
                    rw [up_wrong (by omega)] at C6
                    clear hk5 C5 HI2
                    go_wp2_with fail
                    refine C6.out.mono ?_
                    rintro e x6 ⟨rfl, hk6⟩
                    replace HI0 := hide (HI0.out.non hk6)
                    replace HK := hide (HK.out.then hk6)
                    have C7 := hide (keys_up (by omega) (cap := 1025) HI0.out)
                    clear hk6 C6
                    go_wp2_with fail
                    refine C7.out.mono ?_
                    rintro e x7 ⟨rfl, hk7⟩
                    replace HK := hide (HK.out.then hk7)
                    have C8 := hide (awake_l x7)
                    clear hk7 C7 HI0
                    go_wp2_with fail
                    refine C8.out.mono ?_
                    rintro e x8 ⟨rfl, hk8⟩
                    go_wp2_with fail
                    go_ret
                    exact ⟨rfl, HK.out.then hk8⟩
end
end Go.Proofs.Ytkcbahfmdokalaa
