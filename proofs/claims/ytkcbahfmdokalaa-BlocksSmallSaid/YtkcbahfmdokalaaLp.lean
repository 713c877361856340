/-
  The walk over layer 6's statements: pairs, where both lists are partitions of as many elements. No condition.
-/
import Derived.Test.YtkcbahfmdokalaaLq
import Derived.Test.YtkcbahfmdokalaaLc
import Derived.Test.YtkcbahfmdokalaaRe
import Derived.Deep.AppendLies
namespace Go.Proofs.Ytkcbahfmdokalaa
open Go.RowKit
attribute [local go_sem] onto_cell onto_frozen
set_option linter.unusedVariables false
theorem RowsAt.non {w w' : World} {B : Nat} {S : List Value} {xss : List (List Int)} (h : RowsAt w B S xss) (k : Keeps Non w w') : RowsAt w' B S xss := h.keeps k
theorem Blk.non {w w' : World} {b : Nat} {xs : List Value} {t : TypeId} (h : Blk w b xs t) (k : Keeps Non w w') : Blk w' b xs t := Blk.keeps h k (fun x => x)
theorem Ints.low {S : Nat → Prop} {w w' : World} {a : Option Addr} {n : Nat} {xs : List Int} (h : Ints w a n xs) (k : Keeps S w w') (hs : ∀ b, b < w.heap.size → ¬ S b) : Ints w' a n xs :=
  ⟨h.len, h.big, h.cell.imp id fun ⟨b, off, ha, hb, hc⟩ => ⟨b, off, ha, Nat.lt_of_lt_of_le hb k.size, fun i hi => (k.cell (p := ⟨b, off + i, none⟩) hb (hs b hb)).trans (hc i hi)⟩⟩
theorem countR_c {a : Option Addr} {n cap : Nat} {p : List Int} {w : World} (h : Ints w a n p) (hp : Pt n p) (hn : n ≤ 1024) (c : Nat) (hc : cnt p = c) :
    Calls Try.prog 59 #[.slice a n cap] w fun e w' => e = .returned (.int .i64 c) ∧ Keeps Non w w' := by
  subst hc
  exact (countR_l a n cap p w h hp hn).mono fun e w' ⟨h1, h2⟩ => ⟨h1, by rw [h2]; exact Keeps.refl _ _⟩
/-- A slice that may be written: its block lies at X or behind it, and is not T. -/
def Wr (w : World) (X T : Nat) (v : Value) : Prop := ∃ a n c, v = .slice a n c ∧ n ≤ 17592186044416 ∧ (n = 0 ∨ ∃ (g : Nat) (cs : Array Value), a = some ⟨g, 0, none⟩ ∧ X ≤ g ∧ g ≠ T ∧ w.heap[g]? = some (.cells cs 3 (0, 0)) ∧ n ≤ cs.size)
theorem Wr.set {w : World} {X T : Nat} {v : Value} (h : Wr w X T v) (b i : Nat) (u : Value) : Wr (w.setCell ⟨b, i, none⟩ u) X T v := by
  obtain ⟨a, n, c, h1, h2, h3⟩ := h
  refine ⟨a, n, c, h1, h2, h3.imp id ?_⟩
  rintro ⟨g, cs, h4, h5, h6, h7, h8⟩
  by_cases hg : g = b
  · subst hg
    refine ⟨g, cs.setIfInBounds i u, h4, h5, h6, ?_, by simpa using h8⟩
    simp [World.setCell, Array.getElem?_modify, h7]
  · exact ⟨g, cs, h4, h5, h6, (Below.heap_setCell _ _ _ _ (show g ≠ b from hg)).trans h7, h8⟩
theorem Wr.non {w w' : World} {X T : Nat} {v : Value} (h : Wr w X T v) (k : Keeps Non w w') : Wr w' X T v := by
  obtain ⟨a, n, c, h1, h2, h3⟩ := h
  refine ⟨a, n, c, h1, h2, h3.imp id ?_⟩
  rintro ⟨g, cs, h4, h5, h6, h7, h8⟩
  exact ⟨g, cs, h4, h5, h6, (k.block g (Array.getElem?_eq_some_iff.1 h7).1 (fun x => x)).trans h7, h8⟩
theorem wr_of_owns {w : World} {X T B n : Nat} {v : Value} {xs : List Value} (h : w.ownsRow B 3 1 v n xs) (hX : X ≤ B) (hn : n ≤ 17592186044416) (hT : ∀ g, v.ownBlock = some g → g ≠ T) : Wr w X T v := by
  obtain ⟨hl, h2⟩ := h
  rcases h2 with ⟨rfl, rfl⟩ | ⟨g, cap, cur, rfl, hg, hh, hnc, hcm, hsz, htk⟩
  · exact ⟨none, 0, 0, rfl, by omega, .inl rfl⟩
  · exact ⟨some ⟨g, 0, none⟩, n, cap, rfl, hn, .inr ⟨g, cur, rfl, by omega, hT g rfl, hh, by omega⟩⟩
theorem wr_of_blk {w : World} {X T g n : Nat} {xs : List Value} (h : Blk w g xs 3) (hl : xs.length = n) (hX : X ≤ g) (hT : g ≠ T) (hn : n ≤ 17592186044416) (c : Nat) : Wr w X T (.slice (some ⟨g, 0, none⟩) n c) :=
  ⟨some ⟨g, 0, none⟩, n, c, rfl, hn, .inr ⟨g, xs.toArray, rfl, hX, hT, h, by simp [hl]⟩⟩
set_option maxRecDepth 100000 in
set_option maxHeartbeats 16000000 in
theorem pairs_ok (a b : Option Addr) (n cap cap2 : Nat) (p q : List Int) (w : World) (h : Ints w a n p) (h2 : Ints w b n q) (hp : Pt n p) (hq : Pt n q) (hn : n ≤ 1024) :
    Calls Try.prog 38 #[.slice a n cap, .slice b n cap2] w fun e w' => e = .returned (.bool true) ∧ Keeps Non w w' := by
  obtain ⟨i0, hi, hz0, hz1, hz2⟩ := info22_parts
  have P1 := hide hp
  have P2 := hide hq
  have Ip := hide h
  have Iq := hide h2
  have HK := hide (Keeps.refl Non w)
  obtain ⟨kq, hkq⟩ : ∃ kq, cnt p = kq := ⟨_, rfl⟩
  have HKq := hide hkq
  have hkm : kq ≤ n := by
    have := cnt_le_length p
    rw [hp.len] at this
    omega
  obtain ⟨v, hv⟩ : ∃ v, decide (meetL p q = p) = v := ⟨_, rfl⟩
  have HV := hide hv
  have hp1 := pt_right hp hn
  have hq1 := pt_right hq hn
  have HR1 := hide hp1
  have HR2 := hide hq1
  have hlm : (membersL p).length = kq := by rw [membersL, memAt_length, hkq]
  have HLm := hide hlm
  clear h h2 hp hq hkq hv hp1 hq1 hlm
  go_enter Try.func38, Try.ntmps38
  have C1 := hide (clone_own a n cap p w Ip.out (by omega))
  go_wp2_with fail
  refine C1.out.mono ?_
  rintro e x1 ⟨_, rfl, ho, hk1⟩
  replace Ip := hide (Ip.out.non hk1)
  replace Iq := hide (Iq.out.non hk1)
  replace HK := hide (HK.out.then hk1)
  obtain ⟨a1, c1, rfl, hI⟩ := ints_of_owns ho (by omega)
  have Ia := hide hI
  clear hk1 C1 ho hI
  have C2 := hide (clone_own b n cap2 q x1 Iq.out (by omega))
  go_wp2_with fail
  refine C2.out.mono ?_
  rintro e x2 ⟨_, rfl, ho, hk2⟩
  replace Ip := hide (Ip.out.non hk2)
  replace Iq := hide (Iq.out.non hk2)
  replace Ia := hide (Ia.out.non hk2)
  replace HK := hide (HK.out.then hk2)
  obtain ⟨a2, c2, rfl, hI⟩ := ints_of_owns ho (by omega)
  have Ib := hide hI
  clear hk2 C2 ho hI
  have JA := hide (And.intro (And.intro Ip.out Iq.out) (And.intro Ia.out Ib.out))
  have HK2 := HK
  have HX := hide (Keeps.refl Non x2)
  obtain ⟨X0, hX0⟩ : ∃ X, x2.heap.size = X := ⟨_, rfl⟩
  have HX0 := hide hX0
  clear hX0 HK
  have C3 := hide (finer_c (cap := c1) (cap2 := c2) Ia.out Ib.out P1.out P2.out hn v HV.out)
  go_wp2_with fail
  refine C3.out.mono ?_
  rintro e x3 ⟨rfl, hk3⟩
  replace Ip := hide (Ip.out.non hk3)
  replace Iq := hide (Iq.out.non hk3)
  replace Ia := hide (Ia.out.non hk3)
  replace Ib := hide (Ib.out.non hk3)
  replace HX := hide (HX.out.then hk3)
  clear hk3 C3
  have S3 := hide HX.out.size
  have C4 := hide (meet_yes a1 a2 n c1 n c2 p q x3 Ia.out Ib.out (pt_good P1.out hn) (pt_good P2.out hn) (pt_bothE P1.out P2.out hn))
  go_wp2_with fail
  refine C4.out.mono ?_
  rintro e x4 ⟨_, rfl, gm, rfl, hgm, hBm, hk4⟩
  replace Ip := hide (Ip.out.non hk4)
  replace Iq := hide (Iq.out.non hk4)
  replace Ia := hide (Ia.out.non hk4)
  replace Ib := hide (Ib.out.non hk4)
  replace HX := hide (HX.out.then hk4)
  have Bm := hide hBm
  have Gm : Hid (X0 ≤ gm) := by have := HX0.out; have := S3.out; show _ ≤ _; omega
  rw [(meet_pt P1.out P2.out).len]
  clear hk4 C4 hBm hgm
  have S4 := hide HX.out.size
  have C5 := hide (join_yes a1 a2 n c1 n c2 p q x4 Ia.out Ib.out (pt_good P1.out hn) (pt_good P2.out hn) (pt_bothE P1.out P2.out hn))
  go_wp2_with fail
  refine C5.out.mono ?_
  rintro e x5 ⟨_, rfl, gj, rfl, hgj, hBj, hk5⟩
  replace Ip := hide (Ip.out.non hk5)
  replace Iq := hide (Iq.out.non hk5)
  replace Ia := hide (Ia.out.non hk5)
  replace Ib := hide (Ib.out.non hk5)
  replace Bm := hide (Blk.non Bm.out hk5)
  replace HX := hide (HX.out.then hk5)
  have Bj := hide hBj
  have Gj : Hid (X0 ≤ gj) := by have := HX0.out; have := S4.out; show _ ≤ _; omega
  rw [(join_pt P1.out P2.out).len]
  clear hk5 C5 hBj hgj
  have C6 := hide (count_c (cap := c1) Ia.out P1.out hn kq HKq.out)
  go_wp2_with fail
  refine C6.out.mono ?_
  rintro e x6 ⟨rfl, hk6⟩
  replace Ip := hide (Ip.out.non hk6)
  replace Iq := hide (Iq.out.non hk6)
  replace Ia := hide (Ia.out.non hk6)
  replace Ib := hide (Ib.out.non hk6)
  replace Bm := hide (Blk.non Bm.out hk6)
  replace Bj := hide (Blk.non Bj.out hk6)
  replace HX := hide (HX.out.then hk6)
  clear hk6 C6
  have S6 := hide HX.out.size
  have LM : Hid (gm < x6.heap.size ∧ gj < x6.heap.size) := ⟨Bm.out.lt, Bj.out.lt⟩
  have C7 := hide (members_yes a1 n c1 p x6 Ia.out (pt_good P1.out hn) HR1.out)
  go_wp2_with fail
  refine C7.out.mono ?_
  rintro e x7 ⟨_, rfl, B, S, rfl, hgB, hRB, hk7⟩
  replace Ip := hide (Ip.out.non hk7)
  replace Iq := hide (Iq.out.non hk7)
  replace Ia := hide (Ia.out.non hk7)
  replace Ib := hide (Ib.out.non hk7)
  replace Bm := hide (Blk.non Bm.out hk7)
  replace Bj := hide (Blk.non Bj.out hk7)
  replace HX := hide (HX.out.then hk7)
  have RB := hide hRB
  have GB : Hid (X0 ≤ B ∧ gm ≠ B ∧ gj ≠ B) := by have := HX0.out; have := S6.out; have := LM.out; exact ⟨by omega, by omega, by omega⟩
  rw [HLm.out]
  clear hk7 C7 hgB hRB
  have C8 := hide (equal_c (cap := c1) (cap2 := cap) Ia.out Ip.out true (decide_eq_true rfl))
  go_wp2_with fail
  refine C8.out.mono ?_
  rintro e x8 ⟨rfl, hk8⟩
  replace Ip := hide (Ip.out.non hk8)
  replace Iq := hide (Iq.out.non hk8)
  replace Ia := hide (Ia.out.non hk8)
  replace Ib := hide (Ib.out.non hk8)
  replace Bm := hide (Blk.non Bm.out hk8)
  replace Bj := hide (Blk.non Bj.out hk8)
  replace RB := hide (RB.out.non hk8)
  replace HX := hide (HX.out.then hk8)
  clear hk8 C8
  have C9 := hide (equal_c (cap := c2) (cap2 := cap2) Ib.out Iq.out true (decide_eq_true rfl))
  go_wp2_with fail
  refine C9.out.mono ?_
  rintro e x9 ⟨rfl, hk9⟩
  replace Ip := hide (Ip.out.non hk9)
  replace Iq := hide (Iq.out.non hk9)
  replace Ia := hide (Ia.out.non hk9)
  replace Ib := hide (Ib.out.non hk9)
  replace Bm := hide (Blk.non Bm.out hk9)
  replace Bj := hide (Blk.non Bj.out hk9)
  replace RB := hide (RB.out.non hk9)
  replace HX := hide (HX.out.then hk9)
  clear hk9 C9
  have C10 := hide (right_c (cap := c1) Ia.out P1.out hn)
  go_wp2_with fail
  refine C10.out.mono ?_
  rintro e x10 ⟨rfl, hk10⟩
  replace Ip := hide (Ip.out.non hk10)
  replace Iq := hide (Iq.out.non hk10)
  replace Ia := hide (Ia.out.non hk10)
  replace Ib := hide (Ib.out.non hk10)
  replace Bm := hide (Blk.non Bm.out hk10)
  replace Bj := hide (Blk.non Bj.out hk10)
  replace RB := hide (RB.out.non hk10)
  replace HX := hide (HX.out.then hk10)
  clear hk10 C10
  have C11 := hide (rightR_l a n cap p true x10 Ip.out HR1.out)
  go_wp2_with fail
  refine C11.out.mono ?_
  rintro e x11 ⟨rfl, hk11⟩
  replace Ip := hide (Ip.out.non hk11)
  replace Iq := hide (Iq.out.non hk11)
  replace Ia := hide (Ia.out.non hk11)
  replace Ib := hide (Ib.out.non hk11)
  replace Bm := hide (Blk.non Bm.out hk11)
  replace Bj := hide (Blk.non Bj.out hk11)
  replace RB := hide (RB.out.non hk11)
  replace HX := hide (HX.out.then hk11)
  clear hk11 C11
  have C12 := hide (rightR_l a n cap p true x11 Ip.out HR1.out)
  go_wp2_with fail
  refine C12.out.mono ?_
  rintro e x12 ⟨rfl, hk12⟩
  replace Ip := hide (Ip.out.non hk12)
  replace Iq := hide (Iq.out.non hk12)
  replace Ia := hide (Ia.out.non hk12)
  replace Ib := hide (Ib.out.non hk12)
  replace Bm := hide (Blk.non Bm.out hk12)
  replace Bj := hide (Blk.non Bj.out hk12)
  replace RB := hide (RB.out.non hk12)
  replace HX := hide (HX.out.then hk12)
  clear hk12 C12
  have C13 := hide (countR_c (cap := cap) Ip.out P1.out hn kq HKq.out)
  go_wp2_with fail
  refine C13.out.mono ?_
  rintro e x13 ⟨rfl, hk13⟩
  replace Ip := hide (Ip.out.non hk13)
  replace Iq := hide (Iq.out.non hk13)
  replace Ia := hide (Ia.out.non hk13)
  replace Ib := hide (Ib.out.non hk13)
  replace Bm := hide (Blk.non Bm.out hk13)
  replace Bj := hide (Blk.non Bj.out hk13)
  replace RB := hide (RB.out.non hk13)
  replace HX := hide (HX.out.then hk13)
  clear hk13 C13
  have C14 := hide (membersR_l a n cap p x13 Ip.out P1.out hn)
  go_wp2_with fail
  refine C14.out.mono ?_
  rintro e x14 ⟨_, rfl, am, cm, rfl, hRm, hk14⟩
  replace Ip := hide (Ip.out.non hk14)
  replace Iq := hide (Iq.out.non hk14)
  replace Ia := hide (Ia.out.non hk14)
  replace Ib := hide (Ib.out.non hk14)
  replace Bm := hide (Blk.non Bm.out hk14)
  replace Bj := hide (Blk.non Bj.out hk14)
  replace RB := hide (RB.out.non hk14)
  replace HX := hide (HX.out.then hk14)
  have RM := hide hRm
  rw [HLm.out] at RM ⊢
  clear hk14 C14 hRm
  have hRl := RB.out.rows (by rw [HLm.out]; omega) (fun i => by
    have := memAt_short p p.length i
    rw [P1.out.len] at this
    show (List.getD (memAt p p.length) i []).length ≤ _
    rw [P1.out.len]
    omega)
  rw [HLm.out] at hRl
  have hL := lists_l (some ⟨B, 0, none⟩) kq kq _ am kq cm _ x14 hRl RM.out
  rw [decide_eq_true rfl] at hL
  have HL := hide hL
  clear hRl hL
  have C15 := hide (HL.out)
  go_wp2_with fail
  refine C15.out.mono ?_
  rintro e x15 ⟨rfl, hk15⟩
  replace Ip := hide (Ip.out.non hk15)
  replace Iq := hide (Iq.out.non hk15)
  replace Ia := hide (Ia.out.non hk15)
  replace Ib := hide (Ib.out.non hk15)
  replace Bm := hide (Blk.non Bm.out hk15)
  replace Bj := hide (Blk.non Bj.out hk15)
  replace RB := hide (RB.out.non hk15)
  replace RM := hide (RM.out.non hk15)
  replace HX := hide (HX.out.then hk15)
  clear hk15 C15
  clear RM
  clear HL
  have C16 := hide (rightR_l b n cap2 q true x15 Iq.out HR2.out)
  go_wp2_with fail
  refine C16.out.mono ?_
  rintro e x16 ⟨rfl, hk16⟩
  replace Ip := hide (Ip.out.non hk16)
  replace Iq := hide (Iq.out.non hk16)
  replace Ia := hide (Ia.out.non hk16)
  replace Ib := hide (Ib.out.non hk16)
  replace Bm := hide (Blk.non Bm.out hk16)
  replace Bj := hide (Blk.non Bj.out hk16)
  replace RB := hide (RB.out.non hk16)
  replace HX := hide (HX.out.then hk16)
  clear hk16 C16
  have hF : @decide (Fin n p q) (Classical.propDecidable _) = v := by
    rw [← HV.out]
    exact decide_eq_decide.2 (finer_iff P1.out P2.out).symm
  have HF := hide hF
  clear hF
  have C17 := hide (finerR_l a b n cap cap2 p q v x16 Ip.out Iq.out HF.out)
  go_wp2_with fail
  refine C17.out.mono ?_
  rintro e x17 ⟨rfl, hk17⟩
  replace Ip := hide (Ip.out.non hk17)
  replace Iq := hide (Iq.out.non hk17)
  replace Ia := hide (Ia.out.non hk17)
  replace Ib := hide (Ib.out.non hk17)
  replace Bm := hide (Blk.non Bm.out hk17)
  replace Bj := hide (Blk.non Bj.out hk17)
  replace RB := hide (RB.out.non hk17)
  replace HX := hide (HX.out.then hk17)
  clear hk17 C17
  have hvv : (v == v) = true := by simp
  have C18 := hide (meetR_l a b n cap cap2 p q x17 Ip.out Iq.out (by omega))
  go_wp2_with fail
  refine C18.out.mono ?_
  rintro e x18 ⟨_, rfl, am, cm, rfl, hIm, hk18⟩
  replace Ip := hide (Ip.out.non hk18)
  replace Iq := hide (Iq.out.non hk18)
  replace Ia := hide (Ia.out.non hk18)
  replace Ib := hide (Ib.out.non hk18)
  replace Bm := hide (Blk.non Bm.out hk18)
  replace Bj := hide (Blk.non Bj.out hk18)
  replace RB := hide (RB.out.non hk18)
  replace HX := hide (HX.out.then hk18)
  rw [(meet_pt P1.out P2.out).len] at hIm ⊢
  have Im := hide hIm
  clear hk18 C18 hIm
  have hIg := ints_of_blk Bm.out (by rw [(meet_pt P1.out P2.out).len]; omega)
  rw [(meet_pt P1.out P2.out).len] at hIg
  have Ig := hide hIg
  clear hIg
  have C19 := hide (equal_c (cap := n) (cap2 := cm) Ig.out Im.out true (decide_eq_true rfl))
  go_wp2_with fail
  refine C19.out.mono ?_
  rintro e x19 ⟨rfl, hk19⟩
  replace Ip := hide (Ip.out.non hk19)
  replace Iq := hide (Iq.out.non hk19)
  replace Ia := hide (Ia.out.non hk19)
  replace Ib := hide (Ib.out.non hk19)
  replace Bm := hide (Blk.non Bm.out hk19)
  replace Bj := hide (Blk.non Bj.out hk19)
  replace RB := hide (RB.out.non hk19)
  replace Im := hide (Im.out.non hk19)
  replace Ig := hide (Ig.out.non hk19)
  replace HX := hide (HX.out.then hk19)
  clear hk19 C19
  clear Ig Im
  have C20 := hide (joinR_l a b n cap cap2 p q x19 Ip.out Iq.out P1.out P2.out hn)
  go_wp2_with fail
  refine C20.out.mono ?_
  rintro e x20 ⟨_, rfl, aj, cj, rfl, hIm, hk20⟩
  replace Ip := hide (Ip.out.non hk20)
  replace Iq := hide (Iq.out.non hk20)
  replace Ia := hide (Ia.out.non hk20)
  replace Ib := hide (Ib.out.non hk20)
  replace Bm := hide (Blk.non Bm.out hk20)
  replace Bj := hide (Blk.non Bj.out hk20)
  replace RB := hide (RB.out.non hk20)
  replace HX := hide (HX.out.then hk20)
  rw [(join_pt P1.out P2.out).len] at hIm ⊢
  have Im := hide hIm
  clear hk20 C20 hIm
  have hIg := ints_of_blk Bj.out (by rw [(join_pt P1.out P2.out).len]; omega)
  rw [(join_pt P1.out P2.out).len] at hIg
  have Ig := hide hIg
  clear hIg
  have C21 := hide (equal_c (cap := n) (cap2 := cj) Ig.out Im.out true (decide_eq_true rfl))
  go_wp2_with fail
  refine C21.out.mono ?_
  rintro e x21 ⟨rfl, hk21⟩
  replace Ip := hide (Ip.out.non hk21)
  replace Iq := hide (Iq.out.non hk21)
  replace Ia := hide (Ia.out.non hk21)
  replace Ib := hide (Ib.out.non hk21)
  replace Bm := hide (Blk.non Bm.out hk21)
  replace Bj := hide (Blk.non Bj.out hk21)
  replace RB := hide (RB.out.non hk21)
  replace Im := hide (Im.out.non hk21)
  replace Ig := hide (Ig.out.non hk21)
  replace HX := hide (HX.out.then hk21)
  clear hk21 C21
  clear Ig Im
  have hOw : x21.ownsRow B 22 1 (.slice (some ⟨B, 0, none⟩) kq kq) kq S := by
    have hS := RB.out.len
    rw [HLm.out] at hS
    refine ⟨by omega, .inr ⟨B, kq, S.toArray, rfl, Nat.le_refl _, RB.out.blk, Nat.le_refl _, by unfold maxLen; omega, by simp [hS], by simpa using List.take_of_length_le (by omega)⟩⟩
  have HOw := hide hOw
  clear hOw
  go_wp2_with (at_builtin; refine wpList_append_own_at _ rfl _ _ 36 rfl B 22 i0 (.slice none 0 0) 1 24 Try.underlying36 hi hz0 hz1 hz2 rfl (by decide) _ kq S rfl (owns_keeps HOw.out ((Keeps.refl Non _).alloc _) (fun _ _ x => x)) ⟨x21.heap.size, 0, none⟩ 2 2 [.slice (some ⟨gm, 0, none⟩) n n, .slice (some ⟨gj, 0, none⟩) n n] rfl ?qc1 ?qc2 ?qc3 ?qc4 ?qc5 ?qc6 ?_)
  case qc1 => rfl
  case qc2 => exact World.news_of_block (Blk.newAt _ [.slice (some ⟨gm, 0, none⟩) n n, .slice (some ⟨gj, 0, none⟩) n n] 22 rfl)
  case qc3 => intro u hu; simp at hu; rcases hu with rfl | rfl <;> rfl
  case qc4 => unfold maxLen; omega
  case qc5 => omega
  case qc6 => (try simp); have := RB.out.blk.lt; omega
  intro v' w5 hown hgrow hnil hat
  rcases hown.2 with ⟨_, h0⟩ | ⟨T, c5, cur, rfl, hg, hh, hnc, hcm, hsz, htk⟩
  · omega
  have hTS : T = B ∨ T = x21.heap.size + 1 := by
    rcases hat with h | h
    · left; simpa [Value.ownBlock] using h
    · right; simpa [Value.ownBlock] using h
  have hSl : S.length = kq := by
    have := RB.out.len
    rw [HLm.out] at this
    exact this
  have hcell : ∀ j, j < kq + 2 → w5.cell? ⟨T, j, none⟩ = (S ++ [.slice (some ⟨gm, 0, none⟩) n n, .slice (some ⟨gj, 0, none⟩) n n])[j]? := fun j hj => by
    have e1 : w5.cell? ⟨T, j, none⟩ = cur[j]? := by simp [World.cell?, hh]
    rw [e1, ← htk, List.getElem?_take, if_pos (by omega)]
    simp
  have hgB : ∀ k, k ≠ B → k < x21.heap.size → w5.heap[k]? = x21.heap[k]? := fun k hk hlt =>
    (hgrow.block k (by simp; omega) (fun e => hk (by simpa [Value.ownBlock] using e))).trans (Below.heap_alloc _ _ _ hlt)
  have hBm5 : Blk w5 gm ((meetL p q).map (Value.int .i64)) 3 := Blk.of_eq Bm.out (hgB gm GB.out.2.1 Bm.out.lt)
  have hBj5 : Blk w5 gj ((joinL p q).map (Value.int .i64)) 3 := Blk.of_eq Bj.out (hgB gj GB.out.2.2 Bj.out.lt)
  have hmT : gm ≠ T := by have := GB.out.2.1; have := Bm.out.lt; omega
  have hjT : gj ≠ T := by have := GB.out.2.2; have := Bj.out.lt; omega
  have HW : Hid (∀ j, j < kq + 2 → ∃ u, w5.cell? ⟨T, j, none⟩ = some u ∧ Wr w5 X0 T u) := fun j hj => by
    rw [hcell j hj]
    by_cases hjk : j < kq
    · obtain ⟨u, hu, ho⟩ := RB.out.row j (by rw [HLm.out]; exact hjk)
      refine ⟨u, by rw [List.getElem?_append_left (by omega)]; exact hu, ?_⟩
      have hlo := owns_lt ho
      have ho5 := owns_of_block ho (fun g hg => hgB g (by have := hlo g hg; omega) (hlo g hg).2)
      refine wr_of_owns ho5 (by have := GB.out.1; omega) ?_ (fun g hg => by have := hlo g hg; omega)
      have := memAt_short p p.length j
      rw [P1.out.len] at this
      show (List.getD (memAt p p.length) j []).length ≤ _
      rw [P1.out.len]
      omega
    · rw [List.getElem?_append_right (by omega), hSl]
      by_cases hj0 : j = kq
      · subst hj0
        exact ⟨_, by simp; rfl, wr_of_blk hBm5 (by simp [(meet_pt P1.out P2.out).len]) Gm.out hmT (by omega) n⟩
      · obtain rfl : j = kq + 1 := by omega
        exact ⟨_, by simp; rfl, wr_of_blk hBj5 (by simp [(join_pt P1.out P2.out).len]) Gj.out hjT (by omega) n⟩
  have HKx : Hid (Keeps (fun b => X0 ≤ b) x2 w5) := keeps_grown ((HX.out.alloc _).weak (fun _ _ x => x.elim)) hgrow (fun g hg => .inl (by cases hg; exact GB.out.1))
  have HTl : Hid (T < w5.heap.size) := (Array.getElem?_eq_some_iff.1 hh).1
  clear hown hgrow hnil hat hg hh hnc hcm hsz htk hTS hSl hcell hgB hBm5 hBj5 hmT hjT
  go_wp2_with fail
  go_loopw [198] (fun t wr => ∃ (i : Nat), i ≤ kq + 2 ∧ t = .int .i64 i ∧ Hid (∀ j, j < kq + 2 → ∃ u, wr.cell? ⟨T, j, none⟩ = some u ∧ Wr wr X0 T u) ∧ Hid (Keeps (fun b => X0 ≤ b) x2 wr) ∧ Hid (T < wr.heap.size)) (fun t _ => kq + 2 - (intOf t).toNat)
  case atStart => exact ⟨0, by omega, rfl, HW.out, HKx.out, HTl.out⟩
  case round =>
    clear HW HKx HTl
    obtain ⟨i, hik, rfl, HW, HKx, HTl⟩ := hrel
    have hTl := HTl.out
    by_cases hlt : i < kq + 2
    · obtain ⟨u, hu, ua, un, uc, rfl, hun, hur⟩ := HW.out i hlt
      have i0' : (0 : Int) ≤ (i : Int) := by omega
      have i1' : (i : Int) < (kq : Int) + 2 := by omega
      have HU := hide hur
      clear hur
      go_wp2_with fail
      go_loopw [204] (fun t wr => ∃ (k : Nat), k ≤ un ∧ t = .int .i64 k ∧ Hid (∀ j, j < kq + 2 → ∃ u, wr.cell? ⟨T, j, none⟩ = some u ∧ Wr wr X0 T u) ∧ Hid (Wr wr X0 T (.slice ua un uc)) ∧ Hid (Keeps (fun b => X0 ≤ b) x2 wr) ∧ Hid (T < wr.heap.size)) (fun t _ => un - (intOf t).toNat)
      case atStart => exact ⟨0, by omega, rfl, HW.out, ⟨ua, un, uc, rfl, hun, HU.out⟩, HKx.out, HTl.out⟩
      case round =>
        clear HW HKx HTl HU hTl hu
        obtain ⟨k, hk, rfl, HW, HU, HKx, HTl⟩ := hrel
        by_cases hku : k < un
        · obtain ⟨ua', un', uc', he, _, hur⟩ := HU.out
          cases he
          obtain ⟨g', cs, rfl, g1, g2, g3, g4⟩ := hur.resolve_left (by omega)
          have lc : wr.cell? ⟨g', k, none⟩ = some (cs[k]'(by omega)) := by
            simp only [World.cell?, g3]
            simp [show k < cs.size by omega]
          have lf : wr.frozen? ⟨g', k, none⟩ = false := by simp [World.frozen?, g3]
          have lg : g' < wr.heap.size := (Array.getElem?_eq_some_iff.1 g3).1
          obtain ⟨y, hy⟩ : ∃ y, cs[k]'(by omega) = y := ⟨_, rfl⟩
          rw [hy] at lc
          have k0 : (0 : Int) ≤ (k : Int) := by omega
          have k1 : (k : Int) < (un : Int) := by omega
          have HG2 := hide (And.intro g1 g2)
          clear hy g3 g4 g1 g2
          go_wp2_with fail
          go_roundw
          case rel => exact ⟨k + 1, by omega, by go_num, (fun j hj => by
            obtain ⟨u, h1, h2⟩ := HW.out j hj
            refine ⟨u, ?_, h2.set g' k _⟩
            rw [World.cell?_of_block (Below.heap_setCell _ _ _ _ (show T ≠ g' from fun e => HG2.out.2 e.symm))]
            exact h1), HU.out.set g' k _, HKx.out.set (.inl HG2.out.1) _, by show T < _; simpa [World.setCell] using HTl.out⟩
          case measure => simp [intOf]; omega
        · obtain rfl : un = k := by omega
          have y8 : ¬ (un : Int) < (un : Int) := by omega
          go_wp2_with fail
          go_roundw
          case rel => exact ⟨i + 1, by omega, by go_num, HW.out, HKx.out, HTl.out⟩
          case measure => simp [intOf]; omega
    · obtain rfl : i = kq + 2 := by omega
      obtain ⟨⟨hp2, hq2⟩, ha2, hb2⟩ := JA.out
      have hlow : ∀ b, b < x2.heap.size → ¬ X0 ≤ b := fun b hb => by have := HX0.out; omega
      have hE1 := equal_c (cap := c1) (cap2 := cap) (ha2.low HKx.out hlow) (hp2.low HKx.out hlow) true (decide_eq_true rfl)
      have HE1 := hide hE1
      have Jb := hide (hb2.low HKx.out hlow)
      have Jq := hide (hq2.low HKx.out hlow)
      have HKe : Hid (Keeps Non w wr) := by
        have h1 := HKx.out
        have h2 := HK2.out
        exact h2.trans h1 (fun b hb hx => by have := HX0.out; have := h2.size; omega)
      have y9 : ¬ (kq : Int) + 2 < (kq : Int) + 2 := by omega
      clear hp2 hq2 ha2 hb2 hlow hE1 JA
      go_wp2_with fail
      refine HE1.out.mono ?_
      rintro e w8 ⟨rfl, hk8⟩
      have HE2 := hide (equal_c (cap := c2) (cap2 := cap2) (Jb.out.non hk8) (Jq.out.non hk8) true (decide_eq_true rfl))
      have HK8 := hide (HKe.out.then hk8)
      clear hk8
      go_wp2_with fail
      refine HE2.out.mono ?_
      rintro e w9 ⟨rfl, hk9⟩
      go_wp2_with fail
      go_ret
      exact ⟨rfl, HK8.out.then hk9⟩
end Go.Proofs.Ytkcbahfmdokalaa
