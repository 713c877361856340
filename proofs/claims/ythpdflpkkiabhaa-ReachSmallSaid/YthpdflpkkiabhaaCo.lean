/-
  Walks over layer 7: what is found, in a slice: From. No condition.
-/
import Derived.Test.YthpdflpkkiabhaaFd
import Derived.Test.YthpdflpkkiabhaaCk
import Derived.RangeFuncFrom
import Derived.RangeFuncBox
import Derived.Maps.AppendAt
import Derived.Maps.OwnIn
import Derived.WalkMore
import Derived.ControlIn
namespace Go.Proofs.Ythpdflpkkiabhaa
open Go.RowKit Go.Shelf
attribute [local go_sem] onto_cell onto_frozen
attribute [local go_sem] Oper.semAt_some
set_option linter.unusedVariables false
theorem found_any (nx sa : Option Addr) (np cn ns cs : Nat) (o : Int) (w : World) :
    Calls Try.prog 42 #[.slice nx np cn, .int .i64 o, .slice sa ns cs] w fun e w' => e = .returned (.func (.func 65) #[] #[.pointer (some ⟨w.heap.size, 0, none⟩), .pointer (some ⟨w.heap.size + 1, 0, none⟩), .pointer (some ⟨w.heap.size + 2, 0, none⟩)]) ∧
      w' = ((w.alloc (.cells #[.slice nx np cn] 23)).alloc (.cells #[.int .i64 o] 3)).alloc (.cells #[.slice sa ns cs] 25) := by
  have hmf : ∀ (fn : Fn) (first cap : Array Value) (w : World), (Instr.makeFunc fn first cap).run Try.prog w = .ok (.func fn first cap) w := fun _ _ _ _ => rfl
  go_enter Try.func42, Try.ntmps42
  go_wp2_with fail
  go_ret
  exact ⟨rfl, rfl⟩
/-- A slice of the loop's own that grows: bx: its box. -/
def CollI {α : Type} (base bx : Nat) (f : α → Int) (pre : List α) (S : Nat → Prop) (W : World) : Prop :=
  ∃ v, Blk W bx [v] 25 ∧ W.ownsRow base 3 1 v pre.length (pre.map fun x => .int .i64 (f x)) ∧ ∀ k, S k ↔ k = bx ∨ v.ownBlock = some k
theorem owns_of_eq {A B : World} {base e n : Nat} {v : Value} {xs : List Value} (h : A.ownsRow base e 1 v n xs) (k : ∀ g, v.ownBlock = some g → B.heap[g]? = A.heap[g]?) : B.ownsRow base e 1 v n xs := by
  obtain ⟨hl, h2⟩ := h
  refine ⟨hl, h2.imp id ?_⟩
  rintro ⟨g, cap, cur, rfl, hg, hh, r⟩
  exact ⟨g, cap, cur, rfl, hg, (k g rfl).trans hh, r⟩
theorem owns_here {A : World} {base e n : Nat} {v : Value} {xs : List Value} (h : A.ownsRow base e 1 v n xs) : ∀ g, v.ownBlock = some g → base ≤ g ∧ g < A.heap.size := h.lt
theorem collI_keeps {α : Type} {base bx B0 : Nat} {f : α → Int} {pre : List α} {S : Nat → Prop} {A B : World} (h : CollI base bx f pre S A) (k : Keeps (fun b => ¬ S b ∧ B0 ≤ b) A B) : CollI base bx f pre S B := by
  obtain ⟨v, h1, h2, h3⟩ := h
  exact ⟨v, h1.keeps k (fun h => h.1 ((h3 bx).2 (.inl rfl))), owns_of_eq h2 (fun g hg => k.block g (owns_here h2 g hg).2 (fun h => h.1 ((h3 g).2 (.inr hg)))), h3⟩
theorem coll_ne {A : World} {bx base n : Nat} {v : Value} {xs : List Value} (hB : Blk A bx [v] 25) (ho : A.ownsRow base 3 1 v n xs) : v.ownBlock ≠ some bx := fun e => by
  obtain ⟨_, h2⟩ := ho
  rcases h2 with ⟨rfl, _⟩ | ⟨g2, cap, cur, rfl, _, hh, _⟩
  · cases e
  · cases e
    unfold Blk at hB
    rw [hB] at hh
    simp at hh
/-- One element more. -/
theorem collI_step {α : Type} {base bx : Nat} {f : α → Int} {pre : List α} {x : α} {S : Nat → Prop} {v v' : Value} {A w1 : World} (hB : Blk A bx [v] 25) (hS : ∀ k, S k ↔ k = bx ∨ v.ownBlock = some k) (ho : A.ownsRow base 3 1 v pre.length (pre.map fun x => .int .i64 (f x)))
    (hown : w1.ownsRow base 3 1 v' (pre.length + 1) ((pre.map fun x => .int .i64 (f x)) ++ [.int .i64 (f x)])) (hg : (A.alloc (.cells #[.int .i64 (f x)] 3)).grownBy w1 v.ownBlock) (hat : v'.ownBlock = v.ownBlock ∨ v'.ownBlock = some (A.alloc (.cells #[.int .i64 (f x)] 3)).heap.size) :
    ∃ S', CollI base bx f (pre ++ [x]) S' (w1.setCell ⟨bx, 0, none⟩ v') ∧ Keeps S A (w1.setCell ⟨bx, 0, none⟩ v') ∧ ∀ k, S' k → (S k ∨ A.heap.size ≤ k) ∧ k < (w1.setCell ⟨bx, 0, none⟩ v').heap.size := by
  have nb : ∀ g, v.ownBlock = some g → g ≠ bx := fun g hg e => by
    subst e
    obtain ⟨_, h2⟩ := ho
    rcases h2 with ⟨rfl, _⟩ | ⟨g2, cap, cur, rfl, _, hh, _⟩
    · cases hg
    · cases hg
      unfold Blk at hB
      rw [hB] at hh
      simp at hh
  have lb := hB.lt
  have hB1 : Blk w1 bx [v] 25 := (hB.alloc _).of_eq (hg.block bx (hB.alloc _).lt (fun e => nb bx e.symm rfl))
  have nb' : ∀ g, v'.ownBlock = some g → g ≠ bx := fun g hg2 e => by
    rcases hat with h | h
    · rw [h] at hg2
      exact nb g hg2 e
    · rw [h] at hg2
      cases hg2
      simp at e
      omega
  have szw : (A.alloc (.cells #[.int .i64 (f x)] 3)).heap.size = A.heap.size + 1 := by simp
  have szs : (w1.setCell ⟨bx, 0, none⟩ v').heap.size = w1.heap.size := by simp [World.setCell]
  refine ⟨fun k => k = bx ∨ v'.ownBlock = some k, ⟨v', hB1.store 0 v', ?_, fun k => Iff.rfl⟩, ?_, fun k hk => ⟨?_, ?_⟩⟩
  · refine owns_of_eq ?_ (fun g hg2 => Below.heap_setCell _ _ _ _ (nb' g hg2))
    rw [List.length_append, List.map_append]
    exact hown
  · refine Keeps.set ?_ (.inl ((hS bx).2 (.inl rfl))) _
    exact keeps_grown ((Keeps.refl S A).alloc _) hg (fun k hk => .inl ((hS k).2 (.inr hk)))
  · rcases hk with rfl | hk
    · exact .inl ((hS _).2 (.inl rfl))
    · rcases hat with h | h
      · rw [h] at hk
        exact .inl ((hS k).2 (.inr hk))
      · rw [h] at hk
        cases hk
        exact .inr (by omega)
  · rw [szs]
    rcases hk with rfl | hk
    · exact hB1.lt
    · exact (owns_here hown k hk).2
theorem enc_pos (x : Int × Int) : (encQ x).size = 2 := rfl
/-- What From returns. -/
def fromL (next : List (List Int)) (n : Nat) (s : Int) : List Int := (foundL (succL next) (-1) n [s]).map Prod.fst
/-- A slice of the call's own. -/
def OwnI (w w' : World) (v : Value) (xs : List Int) : Prop := w'.ownsRow w.heap.size 3 1 v xs.length (xs.map (Value.int .i64)) ∧ Keeps Non w w'
theorem OwnI.got {w w' : World} {v : Value} {xs : List Int} (h : OwnI w w' v xs) (hb : xs.length ≤ 17592186044416) : GotInts w w' v xs := by
  obtain ⟨a, cap, rfl, hI⟩ := ints_of_owns h.1 hb
  exact ⟨a, cap, rfl, hI, h.2⟩
theorem checkB_succ {next : List (List Int)} (h : checkB next = true) : ∀ p, 0 ≤ p ∧ p < (next.length : Int) → ∀ q ∈ succL next p, 0 ≤ q ∧ q < (next.length : Int) := fun p hp q hq => by
  unfold succL at hq
  exact (checkB_iff.1 h).2.2 _ (getD_mem (by omega)) q hq
set_option maxRecDepth 100000 in
set_option maxHeartbeats 2000000 in
theorem from_yes (a : Option Addr) (n cap : Nat) (next : List (List Int)) (st : Int) (w : World) (h : Rows w a n next) (hc : checkB next = true) (hs : 0 ≤ st ∧ st < n) :
    Calls Try.prog 27 #[.slice a n cap, .int .i64 st] w fun e w' => ∃ v, e = .returned (.tuple #[v, .int .i64 0]) ∧ OwnI w w' v (fromL next n st) := by
  obtain ⟨i0, hi, hz0, hz1, hz2⟩ := info3_parts
  have hlen := h.len
  subst hlen
  have hn := (checkB_iff.1 hc).1
  have hst1 : ∀ x ∈ [st], 0 ≤ x ∧ x < (next.length : Int) := fun x hx => by rw [List.mem_singleton.1 hx]; exact hs
  have hwr : wrongE next [st] = 0 := by
    unfold wrongE
    rw [if_pos hc, if_neg]
    simp only [List.any_cons, List.any_nil, Bool.or_false]
    rw [badB_no.2 hs]
    decide
  -- what is found
  obtain ⟨L, hL⟩ : ∃ L, foundL (succL next) (-1) next.length [st] = L := ⟨_, rfl⟩
  have hLn : L.length ≤ next.length := by
    rw [← hL]
    exact (found_rec (o := -1) (checkB_succ hc) hst1 (fun _ _ => True) trivial (fun _ _ _ _ _ _ => trivial)).1.few
  have HW := hide (wrong_l a (some ⟨w.heap.size, 0, none⟩) next.length cap 1 1 next [st] (w.alloc (.cells #[.int .i64 st] 3)) (h.non ((Keeps.refl _ _).alloc _)) (ints_laid w [st] rfl (by simp)))
  rw [hwr] at HW
  have HR := hide h
  have HC := hide hc
  have HL := hide hL
  have HS1 := hide hst1
  clear h hc hst1 hwr hL
  refine (callsIn_wide (n := 5)).1 ?_
  refine callsIn_of_wp_marks Try.func27 rfl trivial ?_ rfl
  simp only [Try.ntmps27, List.size_toArray, List.length_cons, List.length_nil, Nat.reduceAdd, Nat.reduceSub, Array.replicate_succ, Array.replicate_zero, List.push_toArray, List.append_toArray, List.nil_append, List.cons_append]
  refine wpIn_wide.2 ?_
  go_wp2_with fail
  refine HW.out.mono ?_
  rintro e w1 ⟨rfl, hk⟩
  have hs1 : w.heap.size + 1 ≤ w1.heap.size := by have := hk.size; rw [World.size_alloc] at this; exact this
  have HK1 := hide (((Keeps.refl Non w).alloc (.cells #[.int .i64 st] 3)).then hk)
  clear hk HW
  go_wp2_with fail
  refine (found_any _ _ _ _ _ _ _ _).mono ?_
  rintro e w2 ⟨rfl, rfl⟩
  go_wp2_with fail
  obtain ⟨B, hB⟩ : ∃ B, w1.heap.size = B := ⟨_, rfl⟩
  obtain ⟨W0, hW0⟩ : ∃ W0, ((((w1.alloc (.cells #[.slice none 0 0] 25)).alloc (.cells #[.int .i64 st] 3)).alloc (.cells #[.slice a next.length cap] 23)).alloc (.cells #[.int .i64 (-1)] 3)).alloc (.cells #[.slice (some ⟨w1.heap.size + 1, 0, none⟩) 1 1] 25) = W0 := ⟨_, rfl⟩
  have hkW : Keeps Non w W0 := by rw [← hW0]; exact (((((HK1.out).alloc _).alloc _).alloc _).alloc _).alloc _
  have szW : W0.heap.size = B + 5 := by rw [← hW0, ← hB]; simp
  have b0 : Blk W0 B [.slice none 0 0] 25 := by rw [← hW0, ← hB]; exact ((((Blk.new w1 [.slice none 0 0] 25).alloc _).alloc _).alloc _).alloc _
  have b1 : Blk W0 (B + 1) [.int .i64 st] 3 := by rw [← hW0]; exact (((Blk.newAt _ [.int .i64 st] 3 (by simp [hB])).alloc _).alloc _).alloc _
  have b2 : Blk W0 (B + 1 + 1) [.slice a next.length cap] 23 := by rw [← hW0]; exact ((Blk.newAt _ [.slice a next.length cap] 23 (by simp [hB])).alloc _).alloc _
  have b3 : Blk W0 (B + 1 + 1 + 1) [.int .i64 (-1)] 3 := by rw [← hW0]; exact (Blk.newAt _ [.int .i64 (-1)] 3 (by simp [hB])).alloc _
  have b4 : Blk W0 (B + 1 + 1 + 2) [.slice (some ⟨B + 1, 0, none⟩) 1 1] 25 := by rw [← hW0, ← hB]; exact Blk.newAt _ [.slice (some ⟨w1.heap.size + 1, 0, none⟩) 1 1] 25 (by simp)
  have hwB : w.heap.size < B := by omega
  obtain ⟨AA, CC, hF⟩ := HR.out.fixed
  have hH : Hands 4 65 #[.pointer (some ⟨B + 1 + 1, 0, none⟩), .pointer (some ⟨B + 1 + 1 + 1, 0, none⟩), .pointer (some ⟨B + 1 + 1 + 2, 0, none⟩)] encQ (fun k => k = B) L W0 := by
    rw [← HL.out]
    exact found_hands 4 (by omega) a next.length cap (some ⟨B + 1, 0, none⟩) 1 1 next [st] (-1) (fun k => k = B) W0 (B + 1 + 1) AA CC b2 b3 b4 (by omega) (by omega) (by omega)
      (fun W hk => ⟨hF.non (hkW.trans hk (fun i hi h => by subst h; omega)), ints_of_blk (xs := [st]) (b1.keeps hk (by omega)) (by simp)⟩) (by omega) (by omega) (checkB_succ HC.out) HS1.out
  have HH := hide hH
  rw [hW0, hB]
  have HkW := hide hkW
  clear hW0 hH hF b1 b2 b3 b4 hkW
  refine (wpIn_wide (n := 5)).1 ?_
  refine wpIn_hands (n := 5) (by omega) (gf := 65) rfl ent65 HH.out (fun _ => rfl) (CollI (w.heap.size) B Prod.fst) (fun k hk => by omega) (fun pre S A B' h k => collI_keeps h k) ⟨_, b0, World.ownsRow_nil _ _ _ _, fun k => by simp [Value.ownBlock]⟩ ?a1 ?assign ?body ?done
  case assign =>
    intro l x W K hK
    unfold encQ
    gi_wp2
    exact hK
  case body =>
    rintro l pre x S A hpre ⟨v, hv, hrow, hSk⟩ hS hkA
    have hc := hv.cell 0
    simp only [List.getElem?_cons_zero] at hc
    have lc := hv.lt
    have hpl : pre.length < 2000 := by
      have := hpre.length_le
      rw [List.length_append, List.length_singleton] at this
      omega
    have hwA : w.heap.size ≤ A.heap.size := by have := hkA.size; omega
    have HV := hide hv
    have HRow := hide hrow
    clear hv hrow hS hkA hpre
    gi_wp2_with (gi_at_builtin; refine wpListIn_append_own_at _ rfl _ _ 25 rfl w.heap.size 3 i0 (.int .i64 0) 1 8 Try.underlying25 hi hz0 hz1 hz2 rfl (by decide) _ _ _ rfl (HRow.out.alloc _) ⟨A.heap.size, 0, none⟩ 1 1 [.int .i64 x.1] rfl rfl (cell_one_new _ _ _) (by simp [Value.oneCell']) (by unfold maxLen; omega) (by omega) (by simp; omega) ?_; intro v' w2 hown' hgrow _ hat; obtain ⟨g', cap', rfl⟩ := ownsRow_succ hown'; obtain ⟨S', hI2, hk2, hS2⟩ := collI_step (f := Prod.fst) (x := x) HV.out hSk HRow.out hown' hgrow hat; have hb2 := hI2; have hB1 : Blk w2 B [v] 25 := (HV.out.alloc _).of_eq (hgrow.block B (HV.out.alloc _).lt (fun e => coll_ne HV.out HRow.out e.symm)); have hf2 := hB1.free 0 none; have hl2 := hB1.lt; have hc2 := hB1.cell 0; simp only [List.getElem?_cons_zero] at hc2; clear hb2)
    exact ⟨S', hI2, hk2, hS2⟩
  case done =>
    rintro D S W hD ⟨v, hv, hrow, hSk⟩ hkW hS hK
    have hc := hv.cell 0
    simp only [List.getElem?_cons_zero] at hc
    obtain ⟨a9, c9, hv9⟩ := owns_slice hrow
    subst hv9
    have HE : Hid (OwnI w (W.putObj D (.deferred none)) (.slice a9 L.length c9) (fromL next next.length st)) := by
      unfold fromL
      rw [HL.out]
      refine ⟨?_, ?_⟩
      · rw [List.length_map, List.map_map]
        refine owns_of_eq hrow (fun g hg => World.putObj_heap_other ?_)
        exact (hS g ((hSk g).2 (.inr hg))).2.2
      · exact (HkW.out.trans hkW (fun k hk h => by subst h; omega)).putObj (.inr (by have := HkW.out.size; omega)) _
    clear hrow hv hkW hS hSk
    go_wp2
    refine ⟨by simp, .inl ⟨_, _, rfl, run_takeDeferred hK, ?_⟩⟩
    refine ⟨_, by simp [results, Try.results27, go_sem], _, rfl, HE.out⟩
end Go.Proofs.Ythpdflpkkiabhaa
