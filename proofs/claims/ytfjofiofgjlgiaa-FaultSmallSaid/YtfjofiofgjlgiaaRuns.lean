/-
  The walk over 'runs': what Catch and Try say of runs of steps is what the reference says. No condition.
-/
import Derived.Test.YtfjofiofgjlgiaaOut
import Derived.Deep.QuietTactic
import Derived.BigQuiet
import Derived.Outline
namespace Go.Proofs.Ytfjofiofgjlgiaa
open Go.RowKit
attribute [local go_sem] onto_cell onto_frozen
/-- The lists of steps at a, n of them, read xss. -/
structure Rws (w : World) (a : Option Addr) (n : Nat) (xss : List (List Step3)) : Prop where
  len : xss.length = n
  cell : n = 0 ∨ ∃ b off, a = some ⟨b, off, none⟩ ∧ b < w.heap.size ∧ ∀ i, i < n → ∃ ai ci, w.cell? ⟨b, off + i, none⟩ = some (.slice ai (xss.getD i []).length ci) ∧ Stp w ai (xss.getD i []).length (xss.getD i [])
theorem one_bd {f l u : Int} {x : Step3} (hl0 : 0 ≤ l) (hlf : l ≤ f) (hf : f ≤ 1048576) (hu0 : 0 ≤ u) : 0 ≤ (oneS f l u x).1 ∧ (oneS f l u x).1 ≤ f ∧ 0 ≤ (oneS f l u x).2.1 ∧ (oneS f l u x).2.1 ≤ u + 1048576 ∧
    ((oneS f l u x).2.2.1 = 0 ∨ (oneS f l u x).2.2.1 = 1 ∨ (oneS f l u x).2.2.1 = 2 ∨ ((oneS f l u x).2.2.1 = 8 ∧ (oneS f l u x).2.2.2 = 0) ∨ ((oneS f l u x).2.2.1 = 9 ∧ (oneS f l u x).2.2.2 = 0)) := by
  unfold oneS
  split
  · split
    · simp; omega
    · split <;> simp <;> omega
  · split
    · simp; omega
    · split
      · split <;> simp <;> omega
      · split
        · split <;> simp <;> omega
        · split <;> simp <;> omega
theorem run_bd {f : Int} (hf : f ≤ 1048576) : ∀ (xs : List Step3) (l u d : Int), 0 ≤ l → l ≤ f → 0 ≤ u → 0 ≤ (runS f xs l u d).1 ∧ (runS f xs l u d).1 ≤ f ∧ 0 ≤ (runS f xs l u d).2.1 ∧ (runS f xs l u d).2.1 ≤ u + 1048576 * xs.length ∧
    (((runS f xs l u d).2.2.2.1 = 0 ∧ (runS f xs l u d).2.2.2.2 = 0) ∨ (runS f xs l u d).2.2.2.1 = 1 ∨ (runS f xs l u d).2.2.2.1 = 2 ∨ ((runS f xs l u d).2.2.2.1 = 8 ∧ (runS f xs l u d).2.2.2.2 = 0) ∨ ((runS f xs l u d).2.2.2.1 = 9 ∧ (runS f xs l u d).2.2.2.2 = 0))
  | [], l, u, d, h1, h2, h3 => by simp [runS]; omega
  | x :: r, l, u, d, h1, h2, h3 => by
    obtain ⟨a1, a2, a3, a4, a5⟩ := one_bd (x := x) h1 h2 hf h3
    unfold runS
    split
    · rename_i h0
      obtain ⟨b1, b2, b3, b4, b5⟩ := run_bd hf r (oneS f l u x).1 (oneS f l u x).2.1 (d + 1) a1 a2 a3
      refine ⟨b1, b2, b3, ?_, b5⟩
      simp only [List.length_cons]
      omega
    · rename_i h0
      simp only
      refine ⟨a1, a2, a3, ?_, ?_⟩
      · simp only [List.length_cons]; omega
      · omega
theorem eq47n (w : World) : (binOp .eql 47 (.pointer none) (.pointer none)).run Try.prog w = .ok (.bool true) w := by kernel_rfl
theorem eq47b (b : Nat) (w : World) : (binOp .eql 47 (.pointer (some ⟨b, 0, none⟩)) (.pointer none)).run Try.prog w = .ok (.bool false) w := by kernel_rfl
set_option maxHeartbeats 4000000 in
set_option maxRecDepth 100000 in
theorem runs_bad (f : Int) (v : Value) (w : World) (hf : f < 0 ∨ 1048576 < f) :
    Calls Try.prog 35 #[.int .i64 f, v] w fun e w' => e = .returned (.bool true) ∧ Keeps Non w w' := by
  have q := eq47n
  by_cases h0 : f < 0
  · clear hf
    go_enter Try.func35, Try.ntmps35
    go_wp2_with fail
    refine (new_bad f _ (.inl h0)).mono ?_
    rintro e w1 ⟨rfl, rfl⟩
    go_wp2
    go_ret
    exact ⟨rfl, (Keeps.refl _ _).alloc _⟩
  · have h1 : 1048576 < f := by omega
    clear hf
    go_enter Try.func35, Try.ntmps35
    go_wp2_with fail
    refine (new_bad f _ (.inr h1)).mono ?_
    rintro e w1 ⟨rfl, rfl⟩
    go_wp2
    go_ret
    exact ⟨rfl, (Keeps.refl _ _).alloc _⟩
/-- The state at a round's head. -/
structure RS (w wr : World) (mb pb : Nat) (f l u : Int) (k : Nat) : Prop where
  m : Mtr wr mb f l u
  p : Blk wr pb [.pointer (some ⟨mb, 0, none⟩)] 47
  r : ∃ D K M : Int, Blk wr (pb + 1) [.int .i64 f, .int .i64 l, .int .i64 u, .int .i64 D, .int .i64 K, .int .i64 M] 77
  keeps : Keeps Non w wr
  bd : 0 ≤ l ∧ l ≤ f ∧ 0 ≤ u ∧ u ≤ 12582912 * k
def fixS (F : Nat → Step3) (j : Nat) : Nat → Step3 := fun i => if i < j then fix4 (F i) else F i
theorem RSt.congr {w : World} {a : Option Addr} {n B : Nat} {F G : Nat → Step3} (h : RSt w a n B F) (e : ∀ i, i < n → F i = G i) : RSt w a n B G :=
  ⟨h.cell.imp id fun ⟨g, ha, hB, hb, hc⟩ => ⟨g, ha, hB, hb, fun i hi => by have := hc i hi; rw [e i hi] at this; exact this⟩⟩
theorem RSt.set {w : World} {g n B j : Nat} {F : Nat → Step3} (h : RSt w (some ⟨g, 0, none⟩) n B F) (hj : j < n) (v : Int) :
    RSt (w.setCell ⟨g, j * 3 + 1, none⟩ (.int .i64 v)) (some ⟨g, 0, none⟩) n B (fun i => if i = j then ((F j).1, v, (F j).2.2) else F i) := by
  refine ⟨h.cell.imp id ?_⟩
  rintro ⟨g', ha, hB, hb, hc⟩
  cases ha
  refine ⟨g, rfl, hB, by simpa using hb, fun i hi => ?_⟩
  obtain ⟨c0, c1, c2, c3⟩ := hc i hi
  have ne : ∀ q, q ≠ j * 3 + 1 → (w.setCell ⟨g, j * 3 + 1, none⟩ (.int .i64 v)).cell? ⟨g, q, none⟩ = w.cell? ⟨g, q, none⟩ := fun q hq => World.cell?_setCell_other _ _ _ _ (by intro h; cases h; exact hq rfl)
  have fz : ∀ q, (w.setCell ⟨g, j * 3 + 1, none⟩ (.int .i64 v)).frozen? ⟨g, q, none⟩ = w.frozen? ⟨g, q, none⟩ := fun q => World.frozen?_setCell _ _ _ _
  by_cases e : i = j
  · subst e
    simp only [↓reduceIte]
    exact ⟨(ne _ (by omega)).trans c0, World.cell?_setCell_same' _ _ _ (by rw [c1]; rfl), (ne _ (by omega)).trans c2, (fz _).trans c3⟩
  · simp only [if_neg e]
    exact ⟨(ne _ (by omega)).trans c0, (ne _ (by omega)).trans c1, (ne _ (by omega)).trans c2, (fz _).trans c3⟩
/-- All below B is as it was. -/
def KeepsTo (B : Nat) (w w' : World) : Prop := Keeps (fun i => B ≤ i) w w'
theorem KeepsTo.set {B : Nat} {a w : World} (h : KeepsTo B a w) {b i : Nat} (hp : B ≤ b ∨ a.heap.size ≤ b) (u : Value) : KeepsTo B a (w.setCell ⟨b, i, none⟩ u) := Keeps.set h hp u
theorem fix_step (F : Nat → Step3) (j : Nat) (v : Int) (h : v = (fix4 (F j)).2.1) : (fun i => if i = j then ((fixS F j j).1, v, (fixS F j j).2.2) else fixS F j i) = fixS F (j + 1) := by
  funext i
  unfold fixS
  by_cases e : i = j
  · subst e
    simp [h, fix4]
  · simp only [if_neg e]
    by_cases h2 : i < j
    · rw [if_pos h2, if_pos (by omega)]
    · rw [if_neg h2, if_neg (by omega)]
theorem fix_skip (F : Nat → Step3) (j : Nat) (h : (F j).1 ≠ 4) : fixS F j = fixS F (j + 1) := by
  funext i
  unfold fixS
  by_cases h2 : i < j
  · rw [if_pos h2, if_pos (by omega)]
  · by_cases e : i = j
    · subst e
      rw [if_neg h2, if_pos (by omega)]
      simp [fix4, h]
    · rw [if_neg h2, if_neg (by omega)]
theorem rdo_at (a : Option Addr) (n cap B : Nat) (xs : List Step3) (f l u d0 k0 m0 L U D K M KK : Int) (w : World) (hr : runS f xs l u 0 = (L, U, D, K, M)) (hKK : refK K = KK) (hS : RSt w a n B (fun i => fix4 (norm (xs.getD i (0, 0, 0))))) (hlen0 : xs.length = n) (hn : n ≤ 12) (hbd : ∀ i, 0 ≤ (xs.getD i (0, 0, 0)).1 ∧ (xs.getD i (0, 0, 0)).1 ≤ 255 ∧ (xs.getD i (0, 0, 0)).2.1 ≤ 9223372036854775807)
    (hl0 : 0 ≤ l) (hlf : l ≤ f) (hf : f ≤ 1048576) (hu0 : 0 ≤ u) (hu1 : u ≤ 1000000000000) :
    Calls Try.prog 54 #[.agg #[.int .i64 f, .int .i64 l, .int .i64 u, .int .i64 d0, .int .i64 k0, .int .i64 m0], .slice a n cap] w fun e w' =>
      e = .returned (.agg #[.int .i64 f, .int .i64 L, .int .i64 U, .int .i64 D, .int .i64 KK, .int .i64 M]) ∧ Keeps Non w w' := by
  have := rdo_any a n cap B xs f l u d0 k0 m0 w hS hlen0 hn hbd hl0 hlf hf hu0 hu1
  rw [hr] at this
  subst hKK
  exact this
theorem Mtr.onto {w : World} {b : Nat} {f l u : Int} (h : Mtr w b f l u) (v : World) : Mtr (onto w v) b f l u := Blk.keeps h (onto_keeps w v) id
theorem R55.non {w w' : World} {mb db : Nat} {f L U D x0 x1 V : Int} {is : Bool} (h : R55 w mb db f L U D x0 x1 is V) (k : Keeps Non w w') : R55 w' mb db f L U D x0 x1 is V :=
  ⟨Blk.keeps h.hm k id, h.hd.keeps k id, h.hx.keeps k id, h.hk.keeps k id, h.hf.keeps k id, h.hv.keeps k id⟩
theorem ne23z (w : World) : (binOp .neq 23 (.agg #[.int .u8 0, .int .i64 0]) (.agg #[.int .u8 0, .int .i64 0])).run Try.prog w = .ok (.bool false) w := by kernel_rfl
set_option maxHeartbeats 20000000 in
set_option maxRecDepth 100000 in
theorem runs_ok (f : Int) (a : Option Addr) (n cap : Nat) (xss : List (List Step3)) (w : World) (hW : Rws w a n xss) (hn : n ≤ 12) (hall : ∀ i, (xss.getD i []).length ≤ 12) (hf0 : 0 ≤ f) (hf1 : f ≤ 1048576) :
    Calls Try.prog 35 #[.int .i64 f, .slice a n cap] w fun e w' => e = .returned (.bool true) ∧ Keeps Non w w' := by
  have hmf : ∀ (fn : Fn) (first cap : Array Value) (w : World), (Instr.makeFunc fn first cap).run Try.prog w = .ok (.func fn first cap) w := fun _ _ _ _ => rfl
  have q := eq47b
  have HW := hide hW
  have HAll := hide hall
  clear hW hall
  go_enter Try.func35, Try.ntmps35
  go_wp2_with fail
  refine (new_ok f _ hf0 hf1).mono ?_
  rintro e w1 ⟨rfl, hm, hk, hlt⟩
  have HM := hide hm
  have HK := hide hk
  clear hm hk
  go_wp2_with fail
  obtain ⟨pb, hpb⟩ : ∃ pb, w1.heap.size = pb := ⟨_, rfl⟩
  have HR0 : Hid (RS w ((w1.alloc (.cells #[.pointer (some ⟨w.heap.size, 0, none⟩)] 47)).alloc (.cells #[.int .i64 f, .int .i64 f, .int .i64 0, .int .i64 0, .int .i64 0, .int .i64 0] 77)) w.heap.size w1.heap.size f f 0 0) :=
    ⟨Blk.alloc (Blk.alloc HM.out _) _, (Blk.newAt w1 _ 47 rfl).alloc _, ⟨0, 0, 0, Blk.newAt _ _ 77 (by simp)⟩, (HK.out.alloc _).alloc _, by omega, by omega, by omega, by omega⟩
  generalize hpb : w1.heap.size = pb at *
  generalize hmb : w.heap.size = mb at *
  have HMB := hide hmb
  clear hmb HM hpb
  go_loopw [48] (fun i wr => ∃ (k : Nat) (l u : Int), k ≤ n ∧ i = .int .i64 k ∧ Hid (RS w wr mb pb f l u k)) (fun i _ => n - (intOf i).toNat)
  case atStart => exact ⟨0, f, 0, by omega, rfl, HR0.out⟩
  case round =>
    obtain ⟨k, l, u, hk, rfl, hR⟩ := hrel
    obtain ⟨wo, rfl⟩ : ∃ wo : World, wo = wr := ⟨_, rfl⟩
    by_cases hlt2 : k < n
    · obtain ⟨b, off, rfl, hb, hcl⟩ := HW.out.cell.resolve_left (by omega)
      obtain ⟨ai, ci, cc, hst⟩ := hcl k hlt2
      have hlx := HAll.out k
      have hb2 := Nat.lt_of_lt_of_le hb hR.out.keeps.size
      have cc := (hR.out.keeps.cell (p := ⟨_, _, none⟩) hb id).trans cc
      have HST := hide hst
      clear hcl hst
      obtain ⟨xs, hxs⟩ : ∃ xs, xss.getD k [] = xs := ⟨_, rfl⟩
      rw [hxs] at cc hlx HST
      obtain ⟨n2, hn2⟩ : ∃ n2, xs.length = n2 := ⟨_, rfl⟩
      rw [hn2] at cc hlx HST
      have HN2 := hide hn2
      clear hxs hn2
      have y0 : (0 : Int) ≤ (k : Int) := by omega
      have y1 : (k : Int) < (n : Int) := by omega
      have y2 : (k : Int) ≤ 12 := by omega
      have hp := Blk.lt hR.out.p
      obtain ⟨D0, K0, M0, hr0⟩ := hR.out.r
      have hrl := Blk.lt hr0
      go_wp2_with fail
      have hKa := hide (((Keeps.refl Non wo).alloc (.cells #[.int .i64 k] 3)).alloc (.cells #[.slice ai n2 ci] 59))
      have hIB := hide ((Blk.new wo [.int .i64 k] 3).alloc (.cells #[.slice ai n2 ci] 59))
      have hSB := hide (Blk.newAt (n := wo.heap.size + 1) (wo.alloc (.cells #[.int .i64 k] 3)) [.slice ai n2 ci] 59 (by simp))
      refine (steps_any ai n2 ci xs _ (HST.out.non (hR.out.keeps.then hKa.out)) hlx).mono ?_
      rintro e w2 ⟨a', c', rfl, hRS, hk2⟩
      have hKb := hide (hKa.out.then hk2)
      have hIB2 := hide (hIB.out.keeps hk2 id)
      have hSB2 := hide (hSB.out.keeps hk2 id)
      have hRS2 := hide hRS
      have HBw : Hid (wo.heap.size + 2 = ((wo.alloc (.cells #[.int .i64 k] 3)).alloc (.cells #[.slice ai n2 ci] 59)).heap.size) := by simp [Hid]
      generalize ((wo.alloc (.cells #[.int .i64 k] 3)).alloc (.cells #[.slice ai n2 ci] 59)).heap.size = B at *
      have hB2 := hide hk2.size
      clear hk2 hRS hKa hIB hSB
      go_wp2_with fail
      go_loopw [57] (fun i wr2 => ∃ j : Nat, j ≤ n2 ∧ i = .int .i64 j ∧ Hid (Keeps Non w2 wr2 ∨ True) ∧ Hid (KeepsTo B w2 wr2) ∧ Hid (RSt wr2 a' n2 B (fixS (fun i => norm (xs.getD i (0, 0, 0))) j))) (fun i _ => n2 - (intOf i).toNat)
      case atStart => exact ⟨0, by omega, rfl, .inr trivial, Keeps.refl _ _, hRS2.out⟩
      case round =>
        obtain ⟨j, hj, rfl, -, hKj, hRj⟩ := hrel
        by_cases hlj : j < n2
        · obtain ⟨g, rfl, hgB, hg, hcl⟩ := hRj.out.cell.resolve_left (by omega)
          obtain ⟨c0, c1, c2, c3⟩ := hcl j hlj
          simp only [fixS, Nat.lt_irrefl, ↓reduceIte] at c0 c1 c2
          have HSet := hide (fun v => hRj.out.set hlj v)
          obtain ⟨b1, b2, b3⟩ := HST.out.bd j
          have z0 : (0 : Int) ≤ (j : Int) := by omega
          have z1 : (j : Int) < (n2 : Int) := by omega
          have z2 : (j : Int) ≤ 12 := by omega
          have hFN := hide (fix_step (fun i => norm (xs.getD i (0, 0, 0))) j)
          have hFK := hide (fix_skip (fun i => norm (xs.getD i (0, 0, 0))) j)
          clear hcl
          generalize hy : norm (xs.getD j (0, 0, 0)) = y at *
          obtain ⟨kd, nn, ms⟩ := y
          simp only at c0 c1 c2
          by_cases h4 : kd = 4
          · subst h4
            go_wp2_with fail
            go_roundw
            case rel => exact ⟨j + 1, by omega, by go_num, .inr trivial, hKj.out.set (.inl hgB) _, by
              have := HSet.out (nn % 256)
              rw [hFN.out _ (by simp [fix4])] at this
              exact this⟩
            case measure => simp [intOf]; omega
          · have h4b : (kd == 4) = false := by simp [h4]
            have HSK := hide (hFK.out h4)
            clear h4
            go_wp2_with fail
            go_roundw
            case rel => exact ⟨j + 1, by omega, by go_num, .inr trivial, hKj.out, by rw [← HSK.out]; exact hRj.out⟩
            case measure => simp [intOf]; omega
        · have hjn : j = n2 := by omega
          subst hjn
          have hKc : Hid (Keeps Non wo wr) := hKb.out.trans hKj.out (fun i hi e => by have := HBw.out; omega)
          have hRf := hide (hRj.out.congr (G := fun i => fix4 (norm (xs.getD i (0, 0, 0)))) (fun i hi => by simp [fixS, hi]))
          have hIB3 := hide (hIB2.out.keeps hKj.out (by have := HBw.out; omega))
          have hSB3 := hide (hSB2.out.keeps hKj.out (by have := HBw.out; omega))
          have hr1 := hr0.keeps hKc.out id
          have s0 := hr1.cell 0
          have s1 := hr1.cell 1
          have s2 := hr1.cell 2
          have s3 := hr1.cell 3
          have s4 := hr1.cell 4
          have s5 := hr1.cell 5
          have lr1 := hr1.lt
          simp only [List.getElem?_cons_zero, List.getElem?_cons_succ] at s0 s1 s2 s3 s4 s5
          have HR1 := hide hr1
          obtain ⟨bd1, bd2, bd3, bd4⟩ := hR.out.bd
          obtain ⟨L, U, D, K, M, hrun⟩ : ∃ L U D K M, runS f xs l u 0 = (L, U, D, K, M) := ⟨_, _, _, _, _, rfl⟩
          have hbdr := run_bd hf1 xs l u 0 bd1 bd2 bd3
          rw [hrun, HN2.out] at hbdr
          obtain ⟨q1, q2, q3, q4, q5⟩ := hbdr
          simp only at q1 q2 q3 q4 q5
          have HRun := hide hrun
          have HQ := hide q5
          obtain ⟨KK, hKK⟩ : ∃ KK, refK K = KK := ⟨_, rfl⟩
          have HKK := hide hKK
          clear hrun hKK hr1 q5
          go_wp2_with fail
          refine (rdo_at a' j c' B xs f l u D0 K0 M0 L U D K M KK _ HRun.out HKK.out hRf.out HN2.out hlx HST.out.bd bd1 bd2 hf1 bd3 (by omega)).mono ?_
          rintro e w3 ⟨rfl, hk3⟩
          have hKd := hide (hKc.out.then hk3)
          have HR2 := HR1.out.keeps hk3 id
          have hIB4 := hide (hIB3.out.keeps hk3 id)
          have hSB4 := hide (hSB3.out.keeps hk3 id)
          have s0 := HR2.cell 0
          have s1 := HR2.cell 1
          have s2 := HR2.cell 2
          have s3 := HR2.cell 3
          have s4 := HR2.cell 4
          have s5 := HR2.cell 5
          have e0 := HR2.free 0 none
          have e1 := HR2.free 1 none
          have e2 := HR2.free 2 none
          have e3 := HR2.free 3 none
          have e4 := HR2.free 4 none
          have e5 := HR2.free 5 none
          have lr2 := HR2.lt
          simp only [List.getElem?_cons_zero, List.getElem?_cons_succ] at s0 s1 s2 s3 s4 s5
          have HR3 := hide HR2
          clear hk3 HR2 hRf hIB3 hSB3 HR1
          go_wp2_with fail
          obtain ⟨wx, hwx⟩ : ∃ wx, (((((((((((w3).setCell ⟨pb + 1, 0, none⟩ (.int .i64 f)).setCell ⟨pb + 1, 1, none⟩ (.int .i64 L)).setCell ⟨pb + 1, 2, none⟩ (.int .i64 U)).setCell ⟨pb + 1, 3, none⟩ (.int .i64 D)).setCell ⟨pb + 1, 4, none⟩ (.int .i64 KK)).setCell ⟨pb + 1, 5, none⟩ (.int .i64 M)).alloc (.cells #[.int .i64 0] 3)).alloc (.cells #[.int .u8 0, .int .i64 0] 23)).alloc (.cells #[.bool false] 4)).alloc (.cells #[.int .i64 0] 25)).alloc (.cells #[.int .i64 0] 3) = wx := ⟨_, rfl⟩
          have hmlt : mb < pb := by have := HMB.out; omega
          have hlt3 := hKd.out.size
          have hsb4 := Blk.lt hSB4.out
          have hRX : Hid (Blk wx (pb + 1) [.int .i64 f, .int .i64 L, .int .i64 U, .int .i64 D, .int .i64 KK, .int .i64 M] 77) := by
            rw [← hwx]
            refine hide ?_
            ((repeat (first | with_reducible exact HR3.out | with_reducible apply Blk.alloc | with_reducible apply blk_set | with_reducible apply Blk.other)); all_goals (first | exact rfl | (simp; done) | (simp; omega) | omega))
          have hKX : Hid (Keeps (fun i => i = pb + 1) wo wx) := by
            rw [← hwx]
            refine hide ?_
            have hK3 := hKd.out.weak (T := fun i => i = pb + 1) (fun i _ x => x.elim)
            ((repeat (first | with_reducible exact hK3 | with_reducible refine Keeps.alloc ?_ _ | with_reducible refine Keeps.set ?_ (.inl ?_) _)); all_goals rfl)
          have hC : Hid (Cl wx wo.heap.size pb (wo.heap.size + 1) mb w3.heap.size k ai j ci xs f l u) := by
            have hi4 : Blk wx wo.heap.size [.int .i64 k] 3 := by
              rw [← hwx]
              ((repeat (first | with_reducible exact hIB4.out | with_reducible apply Blk.alloc | with_reducible apply blk_set | with_reducible apply Blk.other)); all_goals (first | exact rfl | (simp; done) | (simp; omega) | omega))
            have hs4 : Blk wx (wo.heap.size + 1) [.slice ai j ci] 59 := by
              rw [← hwx]
              ((repeat (first | with_reducible exact hSB4.out | with_reducible apply Blk.alloc | with_reducible apply blk_set | with_reducible apply Blk.other)); all_goals (first | exact rfl | (simp; done) | (simp; omega) | omega))
            refine ⟨hi4, hR.out.p.keeps hKX.out (by omega), hs4, ?_, ?_, ?_, ?_, ?_, Blk.keeps hR.out.m hKX.out (by omega), ?_, by omega, ?_, by omega⟩
            · rw [← hwx]; exact (((((Blk.newAt _ [.int .i64 0] 3 (by simp)).alloc _).alloc _).alloc _).alloc _)
            · rw [← hwx]; exact ((((Blk.newAt _ [.int .u8 0, .int .i64 0] 23 (by simp)).alloc _).alloc _).alloc _)
            · rw [← hwx]; exact (((Blk.newAt _ [.bool false] 4 (by simp)).alloc _).alloc _)
            · rw [← hwx]; exact ((Blk.newAt _ [.int .i64 0] 25 (by simp)).alloc _)
            · rw [← hwx]; exact Blk.newAt _ [.int .i64 0] 3 (by simp)
            · exact HST.out.keeps (hR.out.keeps.trans hKX.out (fun i hi e => by have e2 : i = pb + 1 := e; have := HMB.out; exact absurd hi (by omega))) (fun b o e x => x)
            · intro h0 b o e
              rcases HST.out.cell with h1 | ⟨b2, o2, he, hb, _⟩
              · omega
              · rw [he] at e
                cases e
                have := HMB.out
                omega
          rw [hwx]
          have hdb := hKX.out.size
          clear hwx s0 s1 s2 s3 s4 s5 e0 e1 e2 e3 e4 e5 HR3 hIB4 hSB4 lr2
          generalize hdbe : w3.heap.size = db at *
          have hnn : (0 : Int) ≤ (k : Int) := y0
          have HQ2 := HQ.out
          by_cases hpar0 : (k : Int) % 2 = 0
          · have hpar : ((k : Int) % 2 == 0) = true := by simp [hpar0]
            have hpar2 : ((k : Int) % 2 == 1) = false := by simp [hpar0]
            clear hpar0
            rcases HQ2 with ⟨rfl, rfl⟩ | rfl | rfl | ⟨rfl, rfl⟩ | ⟨rfl, rfl⟩
            · obtain rfl : 0 = KK := HKK.out
              refine (o55_e0 HRun.out hC.out hpar y0).mono ?_
              rintro e wy ⟨rfl, hky, hRy⟩
              have hRX2 := hRX.out.keeps hky (by unfold S55; omega)
              have hP2 := hC.out.hp.keeps hky (by have := hC.out.ord; unfold S55; omega)
              have hI2 := hC.out.hi.keeps hky (by have := hC.out.ord; unfold S55; omega)
              have hKy := hide hky
              have HRy := hide hRy
              have HRX2 := hide hRX2
              have HP2 := hide hP2
              have HI2 := hide hI2
              clear hky hRy hRX2 hP2 hI2
              go_wp2_with fail
              refine (thrown_nil _).mono ?_
              rintro e wz ⟨rfl, hkz⟩
              have hRz := HRy.out.non hkz
              have hRX3 := HRX2.out.keeps hkz id
              have hP3 := HP2.out.keeps hkz id
              have hI3 := HI2.out.keeps hkz id
              have g0 := hRz.hd.cell 0
              have g1 := hRz.hx.cell 0
              have g2 := hRz.hx.cell 1
              have g3 := hRz.hk.cell 0
              have g4 := hRz.hf.cell 0
              have g5 := hRz.hv.cell 0
              have l0 := hRz.hd.lt
              have l1 := hRz.hx.lt
              have l2 := hRz.hk.lt
              have l3 := hRz.hf.lt
              have l5 := hRz.hv.lt
              have x0 := hRX3.cell 0
              have x1 := hRX3.cell 1
              have x2 := hRX3.cell 2
              have x3 := hRX3.cell 3
              have x4 := hRX3.cell 4
              have x5 := hRX3.cell 5
              have lX := hRX3.lt
              have p0 := hP3.cell 0
              have lP := hP3.lt
              have i0 := hI3.cell 0
              have lI := hI3.lt
              have lm := Blk.lt hRz.hm
              simp only [List.getElem?_cons_zero, List.getElem?_cons_succ] at g0 g1 g2 g3 g4 g5 x0 x1 x2 x3 x4 x5 p0 i0
              have HRz := hide hRz
              have HRX3 := hide hRX3
              have HP3 := hide hP3
              have hKz := hide hkz
              have HM3 := hide hRz.hm
              have hI4 := hide hI3
              clear hRz hRX3 hP3 hI3 hkz HRy HRX2 HP2 HI2
              have z1 := ne23z
              go_wp2_with fail
              refine wp_region_onto (by kernel_rfl) (by kernel_rfl) ?_
              simp only [List.append_eq, List.cons_append, List.nil_append]
              repeat (go_big_quiet_step (first | (go_at_call 31; exact onto_same (left_any _ _ _ _ _ (Mtr.onto HM3.out _))) | (go_at_call 32; exact onto_same (used_any _ _ _ _ _ (Mtr.onto HM3.out _)))))
              refine wpQuiet_nil ?_
              rintro _ ⟨u9, rfl⟩
              have K9 := onto_keeps wz u9
              go_wp2
              go_roundw
              case rel => exact ⟨k + 1, L, U, by omega, by go_num, Blk.keeps HM3.out K9 id, HP3.out.keeps K9 id, ⟨_, _, _, HRX3.out.keeps K9 id⟩, ((hR.out.keeps.trans hKX.out (fun i hi e => by have e2 : i = pb + 1 := e; have := HMB.out; exact absurd hi (by omega))).trans hKy.out (fun i hi e => by have := HMB.out; have hmb2 := hC.out.ord; unfold S55 at e; exact absurd hi (by omega))).then (hKz.out.then K9), by omega, by omega, by omega, by push_cast; omega⟩
              case measure => simp [intOf]; omega
            · obtain rfl : 1 = KK := HKK.out
              have HK12 : Hid ((1 : Int) = 1 ∨ (1 : Int) = 2) := by unfold Hid; omega
              refine (o55_ef HRun.out HK12.out hC.out hpar y0).mono ?_
              rintro e wy ⟨rfl, hky, hRy⟩
              have hRX2 := hRX.out.keeps hky (by unfold S55; omega)
              have hP2 := hC.out.hp.keeps hky (by have := hC.out.ord; unfold S55; omega)
              have hI2 := hC.out.hi.keeps hky (by have := hC.out.ord; unfold S55; omega)
              have hKy := hide hky
              have HRy := hide hRy
              have HRX2 := hide hRX2
              have HP2 := hide hP2
              have HI2 := hide hI2
              clear hky hRy hRX2 hP2 hI2
              go_wp2_with fail
              refine (thrown_nil _).mono ?_
              rintro e wz ⟨rfl, hkz⟩
              have hRz := HRy.out.non hkz
              have hRX3 := HRX2.out.keeps hkz id
              have hP3 := HP2.out.keeps hkz id
              have hI3 := HI2.out.keeps hkz id
              have g0 := hRz.hd.cell 0
              have g1 := hRz.hx.cell 0
              have g2 := hRz.hx.cell 1
              have g3 := hRz.hk.cell 0
              have g4 := hRz.hf.cell 0
              have g5 := hRz.hv.cell 0
              have l0 := hRz.hd.lt
              have l1 := hRz.hx.lt
              have l2 := hRz.hk.lt
              have l3 := hRz.hf.lt
              have l5 := hRz.hv.lt
              have x0 := hRX3.cell 0
              have x1 := hRX3.cell 1
              have x2 := hRX3.cell 2
              have x3 := hRX3.cell 3
              have x4 := hRX3.cell 4
              have x5 := hRX3.cell 5
              have lX := hRX3.lt
              have p0 := hP3.cell 0
              have lP := hP3.lt
              have i0 := hI3.cell 0
              have lI := hI3.lt
              have lm := Blk.lt hRz.hm
              simp only [List.getElem?_cons_zero, List.getElem?_cons_succ] at g0 g1 g2 g3 g4 g5 x0 x1 x2 x3 x4 x5 p0 i0
              have HRz := hide hRz
              have HRX3 := hide hRX3
              have HP3 := hide hP3
              have hKz := hide hkz
              have HM3 := hide hRz.hm
              have hI4 := hide hI3
              clear hRz hRX3 hP3 hI3 hkz HRy HRX2 HP2 HI2
              go_wp2_with fail
              refine wp_region_onto (by kernel_rfl) (by kernel_rfl) ?_
              repeat (go_big_quiet_step (fail))
              refine wpQuiet_nil ?_
              rintro _ ⟨u8, rfl⟩
              have K8 := onto_keeps wz u8
              generalize onto wz u8 = wq at K8
              have hRz := HRz.out.non K8
              have hRX3 := HRX3.out.keeps K8 id
              have hP3 := HP3.out.keeps K8 id
              have HM3 := hide hRz.hm
              have g0 := hRz.hd.cell 0
              have g1 := hRz.hx.cell 0
              have g2 := hRz.hx.cell 1
              have g3 := hRz.hk.cell 0
              have g4 := hRz.hf.cell 0
              have g5 := hRz.hv.cell 0
              have l0 := hRz.hd.lt
              have l1 := hRz.hx.lt
              have l2 := hRz.hk.lt
              have l3 := hRz.hf.lt
              have l5 := hRz.hv.lt
              have x0 := hRX3.cell 0
              have x1 := hRX3.cell 1
              have x2 := hRX3.cell 2
              have x3 := hRX3.cell 3
              have x4 := hRX3.cell 4
              have x5 := hRX3.cell 5
              have lX := hRX3.lt
              have p0 := hP3.cell 0
              have lP := hP3.lt
              have i0 := (hI4.out.keeps K8 id).cell 0
              have lI := (hI4.out.keeps K8 id).lt
              have lm := Blk.lt hRz.hm
              simp only [List.getElem?_cons_zero, List.getElem?_cons_succ] at g0 g1 g2 g3 g4 g5 x0 x1 x2 x3 x4 x5 p0 i0
              have HRX3 := hide hRX3
              have HP3 := hide hP3
              have hKz := hide (hKz.out.then K8)
              clear hRz hRX3 hP3 K8
              have z1 := ne23z
              go_wp2_with fail
              refine wp_region_onto (by kernel_rfl) (by kernel_rfl) ?_
              simp only [List.append_eq, List.cons_append, List.nil_append]
              repeat (go_big_quiet_step (first | (go_at_call 31; exact onto_same (left_any _ _ _ _ _ (Mtr.onto HM3.out _))) | (go_at_call 32; exact onto_same (used_any _ _ _ _ _ (Mtr.onto HM3.out _)))))
              refine wpQuiet_nil ?_
              rintro _ ⟨u9, rfl⟩
              have K9 := onto_keeps wq u9
              go_wp2
              go_roundw
              case rel => exact ⟨k + 1, L, U, by omega, by go_num, Blk.keeps HM3.out K9 id, HP3.out.keeps K9 id, ⟨_, _, _, HRX3.out.keeps K9 id⟩, ((hR.out.keeps.trans hKX.out (fun i hi e => by have e2 : i = pb + 1 := e; have := HMB.out; exact absurd hi (by omega))).trans hKy.out (fun i hi e => by have := HMB.out; have hmb2 := hC.out.ord; unfold S55 at e; exact absurd hi (by omega))).then (hKz.out.then K9), by omega, by omega, by omega, by push_cast; omega⟩
              case measure => simp [intOf]; omega
            · obtain rfl : 2 = KK := HKK.out
              have HK12 : Hid ((2 : Int) = 1 ∨ (2 : Int) = 2) := by unfold Hid; omega
              refine (o55_ef HRun.out HK12.out hC.out hpar y0).mono ?_
              rintro e wy ⟨rfl, hky, hRy⟩
              have hRX2 := hRX.out.keeps hky (by unfold S55; omega)
              have hP2 := hC.out.hp.keeps hky (by have := hC.out.ord; unfold S55; omega)
              have hI2 := hC.out.hi.keeps hky (by have := hC.out.ord; unfold S55; omega)
              have hKy := hide hky
              have HRy := hide hRy
              have HRX2 := hide hRX2
              have HP2 := hide hP2
              have HI2 := hide hI2
              clear hky hRy hRX2 hP2 hI2
              go_wp2_with fail
              refine (thrown_nil _).mono ?_
              rintro e wz ⟨rfl, hkz⟩
              have hRz := HRy.out.non hkz
              have hRX3 := HRX2.out.keeps hkz id
              have hP3 := HP2.out.keeps hkz id
              have hI3 := HI2.out.keeps hkz id
              have g0 := hRz.hd.cell 0
              have g1 := hRz.hx.cell 0
              have g2 := hRz.hx.cell 1
              have g3 := hRz.hk.cell 0
              have g4 := hRz.hf.cell 0
              have g5 := hRz.hv.cell 0
              have l0 := hRz.hd.lt
              have l1 := hRz.hx.lt
              have l2 := hRz.hk.lt
              have l3 := hRz.hf.lt
              have l5 := hRz.hv.lt
              have x0 := hRX3.cell 0
              have x1 := hRX3.cell 1
              have x2 := hRX3.cell 2
              have x3 := hRX3.cell 3
              have x4 := hRX3.cell 4
              have x5 := hRX3.cell 5
              have lX := hRX3.lt
              have p0 := hP3.cell 0
              have lP := hP3.lt
              have i0 := hI3.cell 0
              have lI := hI3.lt
              have lm := Blk.lt hRz.hm
              simp only [List.getElem?_cons_zero, List.getElem?_cons_succ] at g0 g1 g2 g3 g4 g5 x0 x1 x2 x3 x4 x5 p0 i0
              have HRz := hide hRz
              have HRX3 := hide hRX3
              have HP3 := hide hP3
              have hKz := hide hkz
              have HM3 := hide hRz.hm
              have hI4 := hide hI3
              clear hRz hRX3 hP3 hI3 hkz HRy HRX2 HP2 HI2
              go_wp2_with fail
              refine wp_region_onto (by kernel_rfl) (by kernel_rfl) ?_
              repeat (go_big_quiet_step (fail))
              refine wpQuiet_nil ?_
              rintro _ ⟨u8, rfl⟩
              have K8 := onto_keeps wz u8
              generalize onto wz u8 = wq at K8
              have hRz := HRz.out.non K8
              have hRX3 := HRX3.out.keeps K8 id
              have hP3 := HP3.out.keeps K8 id
              have HM3 := hide hRz.hm
              have g0 := hRz.hd.cell 0
              have g1 := hRz.hx.cell 0
              have g2 := hRz.hx.cell 1
              have g3 := hRz.hk.cell 0
              have g4 := hRz.hf.cell 0
              have g5 := hRz.hv.cell 0
              have l0 := hRz.hd.lt
              have l1 := hRz.hx.lt
              have l2 := hRz.hk.lt
              have l3 := hRz.hf.lt
              have l5 := hRz.hv.lt
              have x0 := hRX3.cell 0
              have x1 := hRX3.cell 1
              have x2 := hRX3.cell 2
              have x3 := hRX3.cell 3
              have x4 := hRX3.cell 4
              have x5 := hRX3.cell 5
              have lX := hRX3.lt
              have p0 := hP3.cell 0
              have lP := hP3.lt
              have i0 := (hI4.out.keeps K8 id).cell 0
              have lI := (hI4.out.keeps K8 id).lt
              have lm := Blk.lt hRz.hm
              simp only [List.getElem?_cons_zero, List.getElem?_cons_succ] at g0 g1 g2 g3 g4 g5 x0 x1 x2 x3 x4 x5 p0 i0
              have HRX3 := hide hRX3
              have HP3 := hide hP3
              have hKz := hide (hKz.out.then K8)
              clear hRz hRX3 hP3 K8
              have z1 := ne23z
              go_wp2_with fail
              refine wp_region_onto (by kernel_rfl) (by kernel_rfl) ?_
              simp only [List.append_eq, List.cons_append, List.nil_append]
              repeat (go_big_quiet_step (first | (go_at_call 31; exact onto_same (left_any _ _ _ _ _ (Mtr.onto HM3.out _))) | (go_at_call 32; exact onto_same (used_any _ _ _ _ _ (Mtr.onto HM3.out _)))))
              refine wpQuiet_nil ?_
              rintro _ ⟨u9, rfl⟩
              have K9 := onto_keeps wq u9
              go_wp2
              go_roundw
              case rel => exact ⟨k + 1, L, U, by omega, by go_num, Blk.keeps HM3.out K9 id, HP3.out.keeps K9 id, ⟨_, _, _, HRX3.out.keeps K9 id⟩, ((hR.out.keeps.trans hKX.out (fun i hi e => by have e2 : i = pb + 1 := e; have := HMB.out; exact absurd hi (by omega))).trans hKy.out (fun i hi e => by have := HMB.out; have hmb2 := hC.out.ord; unfold S55 at e; exact absurd hi (by omega))).then (hKz.out.then K9), by omega, by omega, by omega, by push_cast; omega⟩
              case measure => simp [intOf]; omega
            · obtain rfl : 9 = KK := HKK.out
              refine (o55_e8 HRun.out hC.out hpar y0).mono ?_
              rintro e wy ⟨⟨v, rfl⟩, hky, hRy⟩
              have hRX2 := hRX.out.keeps hky (by unfold S55; omega)
              have hP2 := hC.out.hp.keeps hky (by have := hC.out.ord; unfold S55; omega)
              have hI2 := hC.out.hi.keeps hky (by have := hC.out.ord; unfold S55; omega)
              have hKy := hide hky
              have HRy := hide hRy
              have HRX2 := hide hRX2
              have HP2 := hide hP2
              have HI2 := hide hI2
              clear hky hRy hRX2 hP2 hI2
              go_wp2_with fail
              refine (thrown_8 v _).mono ?_
              rintro e wz ⟨rfl, hkz⟩
              have hRz := HRy.out.non hkz
              have hRX3 := HRX2.out.keeps hkz id
              have hP3 := HP2.out.keeps hkz id
              have hI3 := HI2.out.keeps hkz id
              have g0 := hRz.hd.cell 0
              have g1 := hRz.hx.cell 0
              have g2 := hRz.hx.cell 1
              have g3 := hRz.hk.cell 0
              have g4 := hRz.hf.cell 0
              have g5 := hRz.hv.cell 0
              have l0 := hRz.hd.lt
              have l1 := hRz.hx.lt
              have l2 := hRz.hk.lt
              have l3 := hRz.hf.lt
              have l5 := hRz.hv.lt
              have x0 := hRX3.cell 0
              have x1 := hRX3.cell 1
              have x2 := hRX3.cell 2
              have x3 := hRX3.cell 3
              have x4 := hRX3.cell 4
              have x5 := hRX3.cell 5
              have lX := hRX3.lt
              have p0 := hP3.cell 0
              have lP := hP3.lt
              have i0 := hI3.cell 0
              have lI := hI3.lt
              have lm := Blk.lt hRz.hm
              simp only [List.getElem?_cons_zero, List.getElem?_cons_succ] at g0 g1 g2 g3 g4 g5 x0 x1 x2 x3 x4 x5 p0 i0
              have HRz := hide hRz
              have HRX3 := hide hRX3
              have HP3 := hide hP3
              have hKz := hide hkz
              have HM3 := hide hRz.hm
              have hI4 := hide hI3
              clear hRz hRX3 hP3 hI3 hkz HRy HRX2 HP2 HI2
              have z1 := ne23z
              go_wp2_with fail
              refine wp_region_onto (by kernel_rfl) (by kernel_rfl) ?_
              simp only [List.append_eq, List.cons_append, List.nil_append]
              repeat (go_big_quiet_step (first | (go_at_call 31; exact onto_same (left_any _ _ _ _ _ (Mtr.onto HM3.out _))) | (go_at_call 32; exact onto_same (used_any _ _ _ _ _ (Mtr.onto HM3.out _)))))
              refine wpQuiet_nil ?_
              rintro _ ⟨u9, rfl⟩
              have K9 := onto_keeps wz u9
              go_wp2
              go_roundw
              case rel => exact ⟨k + 1, L, U, by omega, by go_num, Blk.keeps HM3.out K9 id, HP3.out.keeps K9 id, ⟨_, _, _, HRX3.out.keeps K9 id⟩, ((hR.out.keeps.trans hKX.out (fun i hi e => by have e2 : i = pb + 1 := e; have := HMB.out; exact absurd hi (by omega))).trans hKy.out (fun i hi e => by have := HMB.out; have hmb2 := hC.out.ord; unfold S55 at e; exact absurd hi (by omega))).then (hKz.out.then K9), by omega, by omega, by omega, by push_cast; omega⟩
              case measure => simp [intOf]; omega
            · obtain rfl : 9 = KK := HKK.out
              refine (o55_e9 HRun.out hC.out hpar y0).mono ?_
              rintro e wy ⟨rfl, hky, hRy⟩
              have hRX2 := hRX.out.keeps hky (by unfold S55; omega)
              have hP2 := hC.out.hp.keeps hky (by have := hC.out.ord; unfold S55; omega)
              have hI2 := hC.out.hi.keeps hky (by have := hC.out.ord; unfold S55; omega)
              have hKy := hide hky
              have HRy := hide hRy
              have HRX2 := hide hRX2
              have HP2 := hide hP2
              have HI2 := hide hI2
              clear hky hRy hRX2 hP2 hI2
              go_wp2_with fail
              refine (thrown_25 _).mono ?_
              rintro e wz ⟨rfl, hkz⟩
              have hRz := HRy.out.non hkz
              have hRX3 := HRX2.out.keeps hkz id
              have hP3 := HP2.out.keeps hkz id
              have hI3 := HI2.out.keeps hkz id
              have g0 := hRz.hd.cell 0
              have g1 := hRz.hx.cell 0
              have g2 := hRz.hx.cell 1
              have g3 := hRz.hk.cell 0
              have g4 := hRz.hf.cell 0
              have g5 := hRz.hv.cell 0
              have l0 := hRz.hd.lt
              have l1 := hRz.hx.lt
              have l2 := hRz.hk.lt
              have l3 := hRz.hf.lt
              have l5 := hRz.hv.lt
              have x0 := hRX3.cell 0
              have x1 := hRX3.cell 1
              have x2 := hRX3.cell 2
              have x3 := hRX3.cell 3
              have x4 := hRX3.cell 4
              have x5 := hRX3.cell 5
              have lX := hRX3.lt
              have p0 := hP3.cell 0
              have lP := hP3.lt
              have i0 := hI3.cell 0
              have lI := hI3.lt
              have lm := Blk.lt hRz.hm
              simp only [List.getElem?_cons_zero, List.getElem?_cons_succ] at g0 g1 g2 g3 g4 g5 x0 x1 x2 x3 x4 x5 p0 i0
              have HRz := hide hRz
              have HRX3 := hide hRX3
              have HP3 := hide hP3
              have hKz := hide hkz
              have HM3 := hide hRz.hm
              have hI4 := hide hI3
              clear hRz hRX3 hP3 hI3 hkz HRy HRX2 HP2 HI2
              have z1 := ne23z
              go_wp2_with fail
              refine wp_region_onto (by kernel_rfl) (by kernel_rfl) ?_
              simp only [List.append_eq, List.cons_append, List.nil_append]
              repeat (go_big_quiet_step (first | (go_at_call 31; exact onto_same (left_any _ _ _ _ _ (Mtr.onto HM3.out _))) | (go_at_call 32; exact onto_same (used_any _ _ _ _ _ (Mtr.onto HM3.out _)))))
              refine wpQuiet_nil ?_
              rintro _ ⟨u9, rfl⟩
              have K9 := onto_keeps wz u9
              go_wp2
              go_roundw
              case rel => exact ⟨k + 1, L, U, by omega, by go_num, Blk.keeps HM3.out K9 id, HP3.out.keeps K9 id, ⟨_, _, _, HRX3.out.keeps K9 id⟩, ((hR.out.keeps.trans hKX.out (fun i hi e => by have e2 : i = pb + 1 := e; have := HMB.out; exact absurd hi (by omega))).trans hKy.out (fun i hi e => by have := HMB.out; have hmb2 := hC.out.ord; unfold S55 at e; exact absurd hi (by omega))).then (hKz.out.then K9), by omega, by omega, by omega, by push_cast; omega⟩
              case measure => simp [intOf]; omega
          · have hpar : ((k : Int) % 2 == 0) = false := by simp [hpar0]
            have hpar2 : ((k : Int) % 2 == 1) = true := by simp; omega
            clear hpar0
            rcases HQ2 with ⟨rfl, rfl⟩ | rfl | rfl | ⟨rfl, rfl⟩ | ⟨rfl, rfl⟩
            · obtain rfl : 0 = KK := HKK.out
              refine (o55_o0 HRun.out hC.out hpar y0).mono ?_
              rintro e wy ⟨rfl, hky, hRy⟩
              have hRX2 := hRX.out.keeps hky (by unfold S55; omega)
              have hP2 := hC.out.hp.keeps hky (by have := hC.out.ord; unfold S55; omega)
              have hI2 := hC.out.hi.keeps hky (by have := hC.out.ord; unfold S55; omega)
              have hKy := hide hky
              have HRy := hide hRy
              have HRX2 := hide hRX2
              have HP2 := hide hP2
              have HI2 := hide hI2
              clear hky hRy hRX2 hP2 hI2
              go_wp2_with fail
              refine (thrown_nil _).mono ?_
              rintro e wz ⟨rfl, hkz⟩
              have hRz := HRy.out.non hkz
              have hRX3 := HRX2.out.keeps hkz id
              have hP3 := HP2.out.keeps hkz id
              have hI3 := HI2.out.keeps hkz id
              have g0 := hRz.hd.cell 0
              have g1 := hRz.hx.cell 0
              have g2 := hRz.hx.cell 1
              have g3 := hRz.hk.cell 0
              have g4 := hRz.hf.cell 0
              have g5 := hRz.hv.cell 0
              have l0 := hRz.hd.lt
              have l1 := hRz.hx.lt
              have l2 := hRz.hk.lt
              have l3 := hRz.hf.lt
              have l5 := hRz.hv.lt
              have x0 := hRX3.cell 0
              have x1 := hRX3.cell 1
              have x2 := hRX3.cell 2
              have x3 := hRX3.cell 3
              have x4 := hRX3.cell 4
              have x5 := hRX3.cell 5
              have lX := hRX3.lt
              have p0 := hP3.cell 0
              have lP := hP3.lt
              have i0 := hI3.cell 0
              have lI := hI3.lt
              have lm := Blk.lt hRz.hm
              simp only [List.getElem?_cons_zero, List.getElem?_cons_succ] at g0 g1 g2 g3 g4 g5 x0 x1 x2 x3 x4 x5 p0 i0
              have HRz := hide hRz
              have HRX3 := hide hRX3
              have HP3 := hide hP3
              have hKz := hide hkz
              have HM3 := hide hRz.hm
              have hI4 := hide hI3
              clear hRz hRX3 hP3 hI3 hkz HRy HRX2 HP2 HI2
              have z1 := ne23z
              go_wp2_with fail
              refine wp_region_onto (by kernel_rfl) (by kernel_rfl) ?_
              simp only [List.append_eq, List.cons_append, List.nil_append]
              repeat (go_big_quiet_step (first | (go_at_call 31; exact onto_same (left_any _ _ _ _ _ (Mtr.onto HM3.out _))) | (go_at_call 32; exact onto_same (used_any _ _ _ _ _ (Mtr.onto HM3.out _)))))
              refine wpQuiet_nil ?_
              rintro _ ⟨u9, rfl⟩
              have K9 := onto_keeps wz u9
              go_wp2
              go_roundw
              case rel => exact ⟨k + 1, L, U, by omega, by go_num, Blk.keeps HM3.out K9 id, HP3.out.keeps K9 id, ⟨_, _, _, HRX3.out.keeps K9 id⟩, ((hR.out.keeps.trans hKX.out (fun i hi e => by have e2 : i = pb + 1 := e; have := HMB.out; exact absurd hi (by omega))).trans hKy.out (fun i hi e => by have := HMB.out; have hmb2 := hC.out.ord; unfold S55 at e; exact absurd hi (by omega))).then (hKz.out.then K9), by omega, by omega, by omega, by push_cast; omega⟩
              case measure => simp [intOf]; omega
            · obtain rfl : 1 = KK := HKK.out
              have HK12 : Hid ((1 : Int) = 1 ∨ (1 : Int) = 2) := by unfold Hid; omega
              refine (o55_of HRun.out HK12.out hC.out hpar y0).mono ?_
              rintro e wy ⟨rfl, hky, hRy⟩
              have hRX2 := hRX.out.keeps hky (by unfold S55; omega)
              have hP2 := hC.out.hp.keeps hky (by have := hC.out.ord; unfold S55; omega)
              have hI2 := hC.out.hi.keeps hky (by have := hC.out.ord; unfold S55; omega)
              have hKy := hide hky
              have HRy := hide hRy
              have HRX2 := hide hRX2
              have HP2 := hide hP2
              have HI2 := hide hI2
              clear hky hRy hRX2 hP2 hI2
              go_wp2_with fail
              refine (thrown_nil _).mono ?_
              rintro e wz ⟨rfl, hkz⟩
              have hRz := HRy.out.non hkz
              have hRX3 := HRX2.out.keeps hkz id
              have hP3 := HP2.out.keeps hkz id
              have hI3 := HI2.out.keeps hkz id
              have g0 := hRz.hd.cell 0
              have g1 := hRz.hx.cell 0
              have g2 := hRz.hx.cell 1
              have g3 := hRz.hk.cell 0
              have g4 := hRz.hf.cell 0
              have g5 := hRz.hv.cell 0
              have l0 := hRz.hd.lt
              have l1 := hRz.hx.lt
              have l2 := hRz.hk.lt
              have l3 := hRz.hf.lt
              have l5 := hRz.hv.lt
              have x0 := hRX3.cell 0
              have x1 := hRX3.cell 1
              have x2 := hRX3.cell 2
              have x3 := hRX3.cell 3
              have x4 := hRX3.cell 4
              have x5 := hRX3.cell 5
              have lX := hRX3.lt
              have p0 := hP3.cell 0
              have lP := hP3.lt
              have i0 := hI3.cell 0
              have lI := hI3.lt
              have lm := Blk.lt hRz.hm
              simp only [List.getElem?_cons_zero, List.getElem?_cons_succ] at g0 g1 g2 g3 g4 g5 x0 x1 x2 x3 x4 x5 p0 i0
              have HRz := hide hRz
              have HRX3 := hide hRX3
              have HP3 := hide hP3
              have hKz := hide hkz
              have HM3 := hide hRz.hm
              have hI4 := hide hI3
              clear hRz hRX3 hP3 hI3 hkz HRy HRX2 HP2 HI2
              go_wp2_with fail
              refine wp_region_onto (by kernel_rfl) (by kernel_rfl) ?_
              repeat (go_big_quiet_step (fail))
              refine wpQuiet_nil ?_
              rintro _ ⟨u8, rfl⟩
              have K8 := onto_keeps wz u8
              generalize onto wz u8 = wq at K8
              have hRz := HRz.out.non K8
              have hRX3 := HRX3.out.keeps K8 id
              have hP3 := HP3.out.keeps K8 id
              have HM3 := hide hRz.hm
              have g0 := hRz.hd.cell 0
              have g1 := hRz.hx.cell 0
              have g2 := hRz.hx.cell 1
              have g3 := hRz.hk.cell 0
              have g4 := hRz.hf.cell 0
              have g5 := hRz.hv.cell 0
              have l0 := hRz.hd.lt
              have l1 := hRz.hx.lt
              have l2 := hRz.hk.lt
              have l3 := hRz.hf.lt
              have l5 := hRz.hv.lt
              have x0 := hRX3.cell 0
              have x1 := hRX3.cell 1
              have x2 := hRX3.cell 2
              have x3 := hRX3.cell 3
              have x4 := hRX3.cell 4
              have x5 := hRX3.cell 5
              have lX := hRX3.lt
              have p0 := hP3.cell 0
              have lP := hP3.lt
              have i0 := (hI4.out.keeps K8 id).cell 0
              have lI := (hI4.out.keeps K8 id).lt
              have lm := Blk.lt hRz.hm
              simp only [List.getElem?_cons_zero, List.getElem?_cons_succ] at g0 g1 g2 g3 g4 g5 x0 x1 x2 x3 x4 x5 p0 i0
              have HRX3 := hide hRX3
              have HP3 := hide hP3
              have hKz := hide (hKz.out.then K8)
              clear hRz hRX3 hP3 K8
              have z1 := ne23z
              go_wp2_with fail
              refine wp_region_onto (by kernel_rfl) (by kernel_rfl) ?_
              simp only [List.append_eq, List.cons_append, List.nil_append]
              repeat (go_big_quiet_step (first | (go_at_call 31; exact onto_same (left_any _ _ _ _ _ (Mtr.onto HM3.out _))) | (go_at_call 32; exact onto_same (used_any _ _ _ _ _ (Mtr.onto HM3.out _)))))
              refine wpQuiet_nil ?_
              rintro _ ⟨u9, rfl⟩
              have K9 := onto_keeps wq u9
              go_wp2
              go_roundw
              case rel => exact ⟨k + 1, L, U, by omega, by go_num, Blk.keeps HM3.out K9 id, HP3.out.keeps K9 id, ⟨_, _, _, HRX3.out.keeps K9 id⟩, ((hR.out.keeps.trans hKX.out (fun i hi e => by have e2 : i = pb + 1 := e; have := HMB.out; exact absurd hi (by omega))).trans hKy.out (fun i hi e => by have := HMB.out; have hmb2 := hC.out.ord; unfold S55 at e; exact absurd hi (by omega))).then (hKz.out.then K9), by omega, by omega, by omega, by push_cast; omega⟩
              case measure => simp [intOf]; omega
            · obtain rfl : 2 = KK := HKK.out
              have HK12 : Hid ((2 : Int) = 1 ∨ (2 : Int) = 2) := by unfold Hid; omega
              refine (o55_of HRun.out HK12.out hC.out hpar y0).mono ?_
              rintro e wy ⟨rfl, hky, hRy⟩
              have hRX2 := hRX.out.keeps hky (by unfold S55; omega)
              have hP2 := hC.out.hp.keeps hky (by have := hC.out.ord; unfold S55; omega)
              have hI2 := hC.out.hi.keeps hky (by have := hC.out.ord; unfold S55; omega)
              have hKy := hide hky
              have HRy := hide hRy
              have HRX2 := hide hRX2
              have HP2 := hide hP2
              have HI2 := hide hI2
              clear hky hRy hRX2 hP2 hI2
              go_wp2_with fail
              refine (thrown_nil _).mono ?_
              rintro e wz ⟨rfl, hkz⟩
              have hRz := HRy.out.non hkz
              have hRX3 := HRX2.out.keeps hkz id
              have hP3 := HP2.out.keeps hkz id
              have hI3 := HI2.out.keeps hkz id
              have g0 := hRz.hd.cell 0
              have g1 := hRz.hx.cell 0
              have g2 := hRz.hx.cell 1
              have g3 := hRz.hk.cell 0
              have g4 := hRz.hf.cell 0
              have g5 := hRz.hv.cell 0
              have l0 := hRz.hd.lt
              have l1 := hRz.hx.lt
              have l2 := hRz.hk.lt
              have l3 := hRz.hf.lt
              have l5 := hRz.hv.lt
              have x0 := hRX3.cell 0
              have x1 := hRX3.cell 1
              have x2 := hRX3.cell 2
              have x3 := hRX3.cell 3
              have x4 := hRX3.cell 4
              have x5 := hRX3.cell 5
              have lX := hRX3.lt
              have p0 := hP3.cell 0
              have lP := hP3.lt
              have i0 := hI3.cell 0
              have lI := hI3.lt
              have lm := Blk.lt hRz.hm
              simp only [List.getElem?_cons_zero, List.getElem?_cons_succ] at g0 g1 g2 g3 g4 g5 x0 x1 x2 x3 x4 x5 p0 i0
              have HRz := hide hRz
              have HRX3 := hide hRX3
              have HP3 := hide hP3
              have hKz := hide hkz
              have HM3 := hide hRz.hm
              have hI4 := hide hI3
              clear hRz hRX3 hP3 hI3 hkz HRy HRX2 HP2 HI2
              go_wp2_with fail
              refine wp_region_onto (by kernel_rfl) (by kernel_rfl) ?_
              repeat (go_big_quiet_step (fail))
              refine wpQuiet_nil ?_
              rintro _ ⟨u8, rfl⟩
              have K8 := onto_keeps wz u8
              generalize onto wz u8 = wq at K8
              have hRz := HRz.out.non K8
              have hRX3 := HRX3.out.keeps K8 id
              have hP3 := HP3.out.keeps K8 id
              have HM3 := hide hRz.hm
              have g0 := hRz.hd.cell 0
              have g1 := hRz.hx.cell 0
              have g2 := hRz.hx.cell 1
              have g3 := hRz.hk.cell 0
              have g4 := hRz.hf.cell 0
              have g5 := hRz.hv.cell 0
              have l0 := hRz.hd.lt
              have l1 := hRz.hx.lt
              have l2 := hRz.hk.lt
              have l3 := hRz.hf.lt
              have l5 := hRz.hv.lt
              have x0 := hRX3.cell 0
              have x1 := hRX3.cell 1
              have x2 := hRX3.cell 2
              have x3 := hRX3.cell 3
              have x4 := hRX3.cell 4
              have x5 := hRX3.cell 5
              have lX := hRX3.lt
              have p0 := hP3.cell 0
              have lP := hP3.lt
              have i0 := (hI4.out.keeps K8 id).cell 0
              have lI := (hI4.out.keeps K8 id).lt
              have lm := Blk.lt hRz.hm
              simp only [List.getElem?_cons_zero, List.getElem?_cons_succ] at g0 g1 g2 g3 g4 g5 x0 x1 x2 x3 x4 x5 p0 i0
              have HRX3 := hide hRX3
              have HP3 := hide hP3
              have hKz := hide (hKz.out.then K8)
              clear hRz hRX3 hP3 K8
              have z1 := ne23z
              go_wp2_with fail
              refine wp_region_onto (by kernel_rfl) (by kernel_rfl) ?_
              simp only [List.append_eq, List.cons_append, List.nil_append]
              repeat (go_big_quiet_step (first | (go_at_call 31; exact onto_same (left_any _ _ _ _ _ (Mtr.onto HM3.out _))) | (go_at_call 32; exact onto_same (used_any _ _ _ _ _ (Mtr.onto HM3.out _)))))
              refine wpQuiet_nil ?_
              rintro _ ⟨u9, rfl⟩
              have K9 := onto_keeps wq u9
              go_wp2
              go_roundw
              case rel => exact ⟨k + 1, L, U, by omega, by go_num, Blk.keeps HM3.out K9 id, HP3.out.keeps K9 id, ⟨_, _, _, HRX3.out.keeps K9 id⟩, ((hR.out.keeps.trans hKX.out (fun i hi e => by have e2 : i = pb + 1 := e; have := HMB.out; exact absurd hi (by omega))).trans hKy.out (fun i hi e => by have := HMB.out; have hmb2 := hC.out.ord; unfold S55 at e; exact absurd hi (by omega))).then (hKz.out.then K9), by omega, by omega, by omega, by push_cast; omega⟩
              case measure => simp [intOf]; omega
            · obtain rfl : 9 = KK := HKK.out
              refine (o55_o8 HRun.out hC.out hpar y0).mono ?_
              rintro e wy ⟨⟨v, rfl⟩, hky, hRy⟩
              have hRX2 := hRX.out.keeps hky (by unfold S55; omega)
              have hP2 := hC.out.hp.keeps hky (by have := hC.out.ord; unfold S55; omega)
              have hI2 := hC.out.hi.keeps hky (by have := hC.out.ord; unfold S55; omega)
              have hKy := hide hky
              have HRy := hide hRy
              have HRX2 := hide hRX2
              have HP2 := hide hP2
              have HI2 := hide hI2
              clear hky hRy hRX2 hP2 hI2
              go_wp2_with fail
              refine (thrown_8 v _).mono ?_
              rintro e wz ⟨rfl, hkz⟩
              have hRz := HRy.out.non hkz
              have hRX3 := HRX2.out.keeps hkz id
              have hP3 := HP2.out.keeps hkz id
              have hI3 := HI2.out.keeps hkz id
              have g0 := hRz.hd.cell 0
              have g1 := hRz.hx.cell 0
              have g2 := hRz.hx.cell 1
              have g3 := hRz.hk.cell 0
              have g4 := hRz.hf.cell 0
              have g5 := hRz.hv.cell 0
              have l0 := hRz.hd.lt
              have l1 := hRz.hx.lt
              have l2 := hRz.hk.lt
              have l3 := hRz.hf.lt
              have l5 := hRz.hv.lt
              have x0 := hRX3.cell 0
              have x1 := hRX3.cell 1
              have x2 := hRX3.cell 2
              have x3 := hRX3.cell 3
              have x4 := hRX3.cell 4
              have x5 := hRX3.cell 5
              have lX := hRX3.lt
              have p0 := hP3.cell 0
              have lP := hP3.lt
              have i0 := hI3.cell 0
              have lI := hI3.lt
              have lm := Blk.lt hRz.hm
              simp only [List.getElem?_cons_zero, List.getElem?_cons_succ] at g0 g1 g2 g3 g4 g5 x0 x1 x2 x3 x4 x5 p0 i0
              have HRz := hide hRz
              have HRX3 := hide hRX3
              have HP3 := hide hP3
              have hKz := hide hkz
              have HM3 := hide hRz.hm
              have hI4 := hide hI3
              clear hRz hRX3 hP3 hI3 hkz HRy HRX2 HP2 HI2
              have z1 := ne23z
              go_wp2_with fail
              refine wp_region_onto (by kernel_rfl) (by kernel_rfl) ?_
              simp only [List.append_eq, List.cons_append, List.nil_append]
              repeat (go_big_quiet_step (first | (go_at_call 31; exact onto_same (left_any _ _ _ _ _ (Mtr.onto HM3.out _))) | (go_at_call 32; exact onto_same (used_any _ _ _ _ _ (Mtr.onto HM3.out _)))))
              refine wpQuiet_nil ?_
              rintro _ ⟨u9, rfl⟩
              have K9 := onto_keeps wz u9
              go_wp2
              go_roundw
              case rel => exact ⟨k + 1, L, U, by omega, by go_num, Blk.keeps HM3.out K9 id, HP3.out.keeps K9 id, ⟨_, _, _, HRX3.out.keeps K9 id⟩, ((hR.out.keeps.trans hKX.out (fun i hi e => by have e2 : i = pb + 1 := e; have := HMB.out; exact absurd hi (by omega))).trans hKy.out (fun i hi e => by have := HMB.out; have hmb2 := hC.out.ord; unfold S55 at e; exact absurd hi (by omega))).then (hKz.out.then K9), by omega, by omega, by omega, by push_cast; omega⟩
              case measure => simp [intOf]; omega
            · obtain rfl : 9 = KK := HKK.out
              refine (o55_o9 HRun.out hC.out hpar y0).mono ?_
              rintro e wy ⟨rfl, hky, hRy⟩
              have hRX2 := hRX.out.keeps hky (by unfold S55; omega)
              have hP2 := hC.out.hp.keeps hky (by have := hC.out.ord; unfold S55; omega)
              have hI2 := hC.out.hi.keeps hky (by have := hC.out.ord; unfold S55; omega)
              have hKy := hide hky
              have HRy := hide hRy
              have HRX2 := hide hRX2
              have HP2 := hide hP2
              have HI2 := hide hI2
              clear hky hRy hRX2 hP2 hI2
              go_wp2_with fail
              refine (thrown_25 _).mono ?_
              rintro e wz ⟨rfl, hkz⟩
              have hRz := HRy.out.non hkz
              have hRX3 := HRX2.out.keeps hkz id
              have hP3 := HP2.out.keeps hkz id
              have hI3 := HI2.out.keeps hkz id
              have g0 := hRz.hd.cell 0
              have g1 := hRz.hx.cell 0
              have g2 := hRz.hx.cell 1
              have g3 := hRz.hk.cell 0
              have g4 := hRz.hf.cell 0
              have g5 := hRz.hv.cell 0
              have l0 := hRz.hd.lt
              have l1 := hRz.hx.lt
              have l2 := hRz.hk.lt
              have l3 := hRz.hf.lt
              have l5 := hRz.hv.lt
              have x0 := hRX3.cell 0
              have x1 := hRX3.cell 1
              have x2 := hRX3.cell 2
              have x3 := hRX3.cell 3
              have x4 := hRX3.cell 4
              have x5 := hRX3.cell 5
              have lX := hRX3.lt
              have p0 := hP3.cell 0
              have lP := hP3.lt
              have i0 := hI3.cell 0
              have lI := hI3.lt
              have lm := Blk.lt hRz.hm
              simp only [List.getElem?_cons_zero, List.getElem?_cons_succ] at g0 g1 g2 g3 g4 g5 x0 x1 x2 x3 x4 x5 p0 i0
              have HRz := hide hRz
              have HRX3 := hide hRX3
              have HP3 := hide hP3
              have hKz := hide hkz
              have HM3 := hide hRz.hm
              have hI4 := hide hI3
              clear hRz hRX3 hP3 hI3 hkz HRy HRX2 HP2 HI2
              have z1 := ne23z
              go_wp2_with fail
              refine wp_region_onto (by kernel_rfl) (by kernel_rfl) ?_
              simp only [List.append_eq, List.cons_append, List.nil_append]
              repeat (go_big_quiet_step (first | (go_at_call 31; exact onto_same (left_any _ _ _ _ _ (Mtr.onto HM3.out _))) | (go_at_call 32; exact onto_same (used_any _ _ _ _ _ (Mtr.onto HM3.out _)))))
              refine wpQuiet_nil ?_
              rintro _ ⟨u9, rfl⟩
              have K9 := onto_keeps wz u9
              go_wp2
              go_roundw
              case rel => exact ⟨k + 1, L, U, by omega, by go_num, Blk.keeps HM3.out K9 id, HP3.out.keeps K9 id, ⟨_, _, _, HRX3.out.keeps K9 id⟩, ((hR.out.keeps.trans hKX.out (fun i hi e => by have e2 : i = pb + 1 := e; have := HMB.out; exact absurd hi (by omega))).trans hKy.out (fun i hi e => by have := HMB.out; have hmb2 := hC.out.ord; unfold S55 at e; exact absurd hi (by omega))).then (hKz.out.then K9), by omega, by omega, by omega, by push_cast; omega⟩
              case measure => simp [intOf]; omega
    · go_wp2_with fail
      go_ret
      exact ⟨rfl, hR.out.keeps⟩
end Go.Proofs.Ytfjofiofgjlgiaa
