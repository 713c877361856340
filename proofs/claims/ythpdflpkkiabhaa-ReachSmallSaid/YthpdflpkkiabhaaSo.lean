/-
  slices.Values, Collect, Sorted, Sort, Compact over integers. No condition.
-/
import Derived.Test.YthpdflpkkiabhaaCo
import Derived.Lib.SlKeysI
namespace Go.Proofs.Ythpdflpkkiabhaa
open Go.RowKit Go.Shelf
attribute [local go_sem] onto_cell onto_frozen
attribute [local go_sem] Oper.semAt_some
set_option linter.unusedVariables false
def sortL (xs : List Int) : List Int := xs.mergeSort (fun x y => decide (x ≤ y))
theorem sortL_length (xs : List Int) : (sortL xs).length = xs.length := List.length_mergeSort _
theorem sort_own (base : Nat) (v : Value) (xs : List Int) (w : World) (h : w.ownsRow base 3 1 v xs.length (xs.map (Value.int .i64))) (hn : xs.length ≤ 1000000) :
    Calls Try.prog 47 #[v] w fun e w' => e = .returned (.tuple #[]) ∧ w'.ownsRow base 3 1 v xs.length ((sortL xs).map (Value.int .i64)) ∧ Keeps (fun k => v.ownBlock = some k) w w' := by
  obtain ⟨hl, h2⟩ := h
  rcases h2 with ⟨rfl, h0⟩ | ⟨g, cap, cur, rfl, hg, hh, hnc, hcm, hsz, htk⟩
  · have hx : xs = [] := List.eq_nil_of_length_eq_zero h0
    subst hx
    refine (Try.slices_Sort_int_none none 0 w).mono ?_
    rintro e w' ⟨rfl, rfl⟩
    exact ⟨rfl, by simpa [sortL] using World.ownsRow_nil w' base 3 1, Keeps.refl _ _⟩
  · rw [Nat.mul_one] at htk
    have hH := holds_of_block_i (ss := xs) hh htk
    refine (Try.slices_Sort_int g 0 cap xs w hH (Array.getElem?_eq_some_iff.1 hh).1 (by omega)).mono ?_
    rintro e w' ⟨rfl, nn, os, rfl⟩
    refine ⟨rfl, ownsRow_sorted_i (ts := sortL xs) (ss := xs) (sortL_length xs) hg hh hnc hcm hsz, ?_⟩
    have hgb := grownBy_sorted_i (w := w) (g := g) (n := nn) (os := os) (sortL xs).toArray
    exact keeps_grown (Keeps.refl _ w) hgb (fun k hk => .inl hk)
theorem values_any (a : Option Addr) (n c : Nat) (w : World) :
    Calls Try.prog 24 #[.slice a n c] w fun e w' => e = .returned (.func (.func 50) #[] #[.pointer (some ⟨w.heap.size, 0, none⟩)]) ∧ w' = w.alloc (.cells #[.slice a n c] 25) := by
  have hmf : ∀ (fn : Fn) (first cap : Array Value) (w : World), (Instr.makeFunc fn first cap).run Try.prog w = .ok (.func fn first cap) w := fun _ _ _ _ => rfl
  go_enter Try.func24, Try.ntmps24
  go_wp2_with fail
  go_ret
  exact ⟨rfl, rfl⟩
def enc1 (x : Int) : Array Value := #[.int .i64 x]
theorem ent50 : Ent 50 := ent_of Try.func50 (by decide) rfl
set_option maxRecDepth 100000 in
set_option maxHeartbeats 2000000 in
theorem values_hands (n : Nat) (hn : 1 ≤ n) (a : Option Addr) (m c : Nat) (xs : List Int) (S0 : Nat → Prop) (w0 : World) (b : Nat) (hb : Blk w0 b [.slice a m c] 25) (hs : ¬ S0 b)
    (hR : ∀ W, Keeps S0 w0 W → Ints W a m xs) : Hands n 50 #[.pointer (some ⟨b, 0, none⟩)] enc1 S0 xs w0 := by
  intro l J T0 W hWk hT0 hab hY h0
  obtain ⟨s, hs'⟩ : ∃ s, W.heap.size = s := ⟨_, rfl⟩
  have HR : Hid (∀ wr, Keeps T0 W wr → Ints wr a m xs ∧ Blk wr b [.slice a m c] 25) := fun wr hk => by
    have hk2 : Keeps S0 w0 wr := (hWk.weak (fun _ _ h => h.elim) : Keeps S0 w0 W).trans hk (fun k hk h => by
      rcases (hT0 k h).1 with h | h
      · exact h
      · omega)
    exact ⟨hR wr hk2, hb.keeps hk2 hs⟩
  have HT0 : Hid (∀ k, T0 k → k < s) := fun k h => by rw [← hs']; exact (hT0 k h).2
  have HY := hide hY
  have HJ0 := hide h0
  have r0 := HR.out W (Keeps.refl _ _)
  have c1 := r0.2.cell 0
  simp only [List.getElem?_cons_zero] at c1
  have hmb := r0.1.big
  have HMs := hide hs'
  clear hWk hT0 hab hY h0 hR hb hs r0
  refine callsIn_of_wp Try.func50 rfl trivial ?_ rfl
  simp only [Try.ntmps50, List.size_toArray, List.length_cons, List.length_nil, Nat.reduceAdd, Nat.reduceSub, Array.replicate_succ, Array.replicate_zero, List.push_toArray, List.append_toArray, List.nil_append, List.cons_append]
  gi_wp2
  clear c1
  gi_loopw [7] (fun i wr => ∃ (k : Nat) (T : Nat → Prop), k ≤ m ∧ i = .int .i64 k ∧ Hid (J (xs.take k) T wr) ∧ Hid (∀ g, T g → (T0 g ∨ s ≤ g) ∧ g < wr.heap.size) ∧ Hid (Keeps T0 W wr)) (fun i _ => m - (intOf i).toNat)
  case atStart => exact ⟨0, T0, by omega, rfl, HJ0.out, fun g hg => ⟨.inl hg, by have := HT0.out g hg; have := HMs.out; omega⟩, Keeps.refl _ _⟩
  case round =>
    clear HJ0
    obtain ⟨k, T, hk, rfl, HJ, HT, HK⟩ := hrel
    have hr := HR.out wr HK.out
    by_cases hlt : k < m
    · obtain ⟨b1, o1, rfl, hb1, hc1⟩ := hr.1.at (by omega)
      have ck := hc1 k hlt
      have hxl := hr.1.len
      obtain ⟨x, hx⟩ : ∃ x, xs.getD k 0 = x := ⟨_, rfl⟩
      rw [hx] at ck
      have HTk : Hid (xs.take (k + 1) = xs.take k ++ [x]) := take_snocI (by omega) hx
      have hpre : xs.take k ++ [x] <+: xs := by rw [← HTk.out]; exact List.take_prefix _ _
      have hYA := HY.out (xs.take k) x T wr hpre HJ.out (fun g hg => (HT.out g hg).2)
      obtain ⟨fn, tmps, assign, body, hy, hRd⟩ := hYA
      dsimp only [enc1] at hy
      have z0 : (0 : Int) ≤ (k : Int) := by omega
      have z1 : (k : Int) < (m : Int) := by omega
      clear hc1 hx hpre hr
      gi_wp2
      refine hRd.mono ?_
      rintro e w2 ⟨rfl, T', hJ2, hk2, hT2⟩
      have HJ2 : Hid (J (xs.take (k + 1)) T' w2) := by show J _ _ _; rw [HTk.out]; exact hJ2
      have HK2 : Hid (Keeps T0 W w2) := HK.out.trans hk2 (fun g hg h => by
        rcases (HT.out g h).1 with h | h
        · exact h
        · have := HMs.out; omega)
      have HT2 : Hid (∀ g, T' g → (T0 g ∨ s ≤ g) ∧ g < w2.heap.size) := fun g hg => by
        obtain ⟨h1, h2⟩ := hT2 g hg
        refine ⟨?_, h2⟩
        rcases h1 with h1 | h1
        · exact (HT.out g h1).1
        · have := HK.out.size; have := HMs.out; exact .inr (by omega)
      clear hJ2 hk2 hT2 hy hRd
      gi_wp2
      go_roundw
      case rel => exact ⟨k + 1, T', by omega, by go_num, HJ2.out, HT2.out, HK2.out⟩
      case measure => simp [intOf]; omega
    · have hkm : k = m := by omega
      subst hkm
      have y9 : ¬ (k : Int) < (k : Int) := by omega
      have HE : Hid (∃ T, J xs T wr ∧ Keeps T0 W wr ∧ ∀ g, T g → (T0 g ∨ s ≤ g) ∧ g < wr.heap.size) := by
        have h := HJ.out
        rw [List.take_of_length_le (by rw [hr.1.len]; exact Nat.le_refl _)] at h
        exact ⟨T, h, HK.out, HT.out⟩
      clear hr
      gi_wp2
      go_end0
      exact ⟨⟨_, rfl⟩, HE.out⟩
set_option maxRecDepth 100000 in
set_option maxHeartbeats 2000000 in
theorem appendSeq_l (g : Nat) (lb : Array Value) (xs : List Int) (w : World) (eg : Ent g) (hn : xs.length ≤ 100000) (hH : ∀ S0 w0, (∀ k, S0 k → w.heap.size ≤ k) → Keeps Non w w0 → Hands 4 g lb enc1 S0 xs w0) :
    Calls Try.prog 72 #[.slice none 0 0, .func (.func g) #[] lb] w fun e w' => ∃ v, e = .returned v ∧ OwnI w w' v xs := by
  obtain ⟨i0, hi, hz0, hz1, hz2⟩ := info3_parts
  obtain ⟨B, hB⟩ : ∃ B, w.heap.size = B := ⟨_, rfl⟩
  have HHn := hide hH
  have HEg := hide eg
  clear hH eg
  refine (callsIn_wide (n := 5)).1 ?_
  refine callsIn_of_wp_marks Try.func72 rfl trivial ?_ rfl
  simp only [Try.ntmps72, List.size_toArray, List.length_cons, List.length_nil, Nat.reduceAdd, Nat.reduceSub, Array.replicate_succ, Array.replicate_zero, List.push_toArray, List.append_toArray, List.nil_append, List.cons_append]
  refine wpIn_wide.2 ?_
  go_wp2_with fail
  obtain ⟨W0, hW0⟩ : ∃ W0, w.alloc (.cells #[.slice none 0 0] 25) = W0 := ⟨_, rfl⟩
  have hkW : Keeps Non w W0 := by rw [← hW0]; exact (Keeps.refl _ _).alloc _
  have b0 : Blk W0 B [.slice none 0 0] 25 := by rw [← hW0, ← hB]; exact Blk.new w [.slice none 0 0] 25
  have szW : W0.heap.size = B + 1 := by rw [← hW0, ← hB]; simp
  have hH := HHn.out (fun k => k = B) W0 (fun k h => by omega) hkW
  have HH := hide hH
  have HkW := hide hkW
  rw [hW0]
  try rw [hB]
  have HB := hide hB
  clear hW0 hH hkW HHn hB
  refine (wpIn_wide (n := 5)).1 ?_
  refine wpIn_hands (n := 5) (by omega) (gf := g) rfl HEg.out HH.out (fun _ => rfl) (CollI B B (fun x => x)) (fun k hk => by omega) (fun pre S A B' h k => collI_keeps h k) ⟨_, b0, World.ownsRow_nil _ _ _ _, fun k => by simp [Value.ownBlock]⟩ ?a1 ?assign ?body ?done
  case assign =>
    intro l x W K hK
    unfold enc1
    gi_wp2
    exact hK
  case body =>
    rintro l pre x S A hpre ⟨v, hv, hrow, hSk⟩ hS hkA
    have hc := hv.cell 0
    simp only [List.getElem?_cons_zero] at hc
    have lc := hv.lt
    have hpl : pre.length < 200000 := by
      have := hpre.length_le
      rw [List.length_append, List.length_singleton] at this
      omega
    have hwA : B ≤ A.heap.size := by have := hkA.size; omega
    have HV := hide hv
    have HRow := hide hrow
    clear hv hrow hS hkA hpre
    gi_wp2_with (gi_at_builtin; refine wpListIn_append_own_at _ rfl _ _ 25 rfl B 3 i0 (.int .i64 0) 1 8 Try.underlying25 hi hz0 hz1 hz2 rfl (by decide) _ _ _ rfl (HRow.out.alloc _) ⟨A.heap.size, 0, none⟩ 1 1 [.int .i64 x] rfl rfl (cell_one_new _ _ _) (by simp [Value.oneCell']) (by unfold maxLen; omega) (by omega) (by simp; omega) ?_; intro v' w2 hown' hgrow _ hat; obtain ⟨g', cap', rfl⟩ := ownsRow_succ hown'; obtain ⟨S', hI2, hk2, hS2⟩ := collI_step (f := fun x => x) (x := x) HV.out hSk HRow.out hown' hgrow hat; have hb2 := hI2; have hB1 : Blk w2 B [v] 25 := (HV.out.alloc _).of_eq (hgrow.block B (HV.out.alloc _).lt (fun e => coll_ne HV.out HRow.out e.symm)); have hf2 := hB1.free 0 none; have hl2 := hB1.lt; have hc2 := hB1.cell 0; simp only [List.getElem?_cons_zero] at hc2; clear hb2)
    exact ⟨S', hI2, hk2, hS2⟩
  case done =>
    rintro D S W hD ⟨v, hv, hrow, hSk⟩ hkW hS hK
    have hc := hv.cell 0
    simp only [List.getElem?_cons_zero] at hc
    obtain ⟨a9, c9, hv9⟩ := owns_slice hrow
    subst hv9
    have HE : Hid (OwnI w (W.putObj D (.deferred none)) (.slice a9 xs.length c9) xs) := by
      refine ⟨?_, ?_⟩
      · rw [HB.out]
        refine owns_of_eq hrow (fun g hg => World.putObj_heap_other ?_)
        exact (hS g ((hSk g).2 (.inr hg))).2.2
      · exact (HkW.out.trans hkW (fun k hk h => by subst h; have := HB.out; omega)).putObj (.inr (by have := HkW.out.size; omega)) _
    clear hrow hv hkW hS hSk
    go_wp2
    refine ⟨by simp, .inl ⟨_, _, rfl, run_takeDeferred hK, ?_⟩⟩
    refine ⟨_, by simp [results, Try.results72, go_sem], _, rfl, HE.out⟩
theorem collect_l (g : Nat) (lb : Array Value) (xs : List Int) (w : World) (eg : Ent g) (hn : xs.length ≤ 100000) (hH : ∀ S0 w0, (∀ k, S0 k → w.heap.size ≤ k) → Keeps Non w w0 → Hands 4 g lb enc1 S0 xs w0) :
    Calls Try.prog 49 #[.func (.func g) #[] lb] w fun e w' => ∃ v, e = .returned v ∧ OwnI w w' v xs := by
  have HA := hide (appendSeq_l g lb xs w eg hn hH)
  clear hH
  go_enter Try.func49, Try.ntmps49
  go_wp2_with fail
  refine HA.out.mono ?_
  rintro e w2 ⟨v, rfl, hO⟩
  obtain ⟨a9, c9, rfl⟩ := owns_slice hO.1
  have HO := hide hO
  clear hO
  go_wp2_with fail
  go_ret
  exact ⟨_, rfl, HO.out⟩
theorem ints_pre {w : World} {a : Option Addr} {n m : Nat} {xs : List Int} (h : Ints w a n xs) (hm : m ≤ n) : Ints w a m (xs.take m) :=
  ⟨by rw [List.length_take, h.len]; omega, Nat.le_trans hm h.big, by
    by_cases h0 : m = 0
    · exact .inl h0
    · obtain ⟨b, off, ha, hb, hc⟩ := h.at (by omega)
      exact .inr ⟨b, off, ha, hb, fun i hi => by rw [hc i (by omega), take_pre hi]⟩⟩
theorem sorted_l (a : Option Addr) (n c b : Nat) (xs : List Int) (w : World) (h : Ints w a n xs) (hn : n ≤ 100000) (hb : Blk w b [.slice a n c] 25) :
    Calls Try.prog 23 #[.func (.func 50) #[] #[.pointer (some ⟨b, 0, none⟩)]] w fun e w' => ∃ v, e = .returned v ∧ OwnI w w' v (sortL xs) := by
  obtain rfl := h.len
  have HA := hide (collect_l 50 #[.pointer (some ⟨b, 0, none⟩)] xs w ent50 (by omega) (fun S0 w0 hS hk => values_hands 4 (by omega) a xs.length c xs S0 w0 b (hb.keeps hk (fun x => x)) (fun h => by have := hS b h; have := hb.lt; omega)
    (fun W hkW => h.non (hk.trans hkW (fun i hi hSi => by have := hS i hSi; omega)))))
  clear h hb
  go_enter Try.func23, Try.ntmps23
  go_wp2_with fail
  refine HA.out.mono ?_
  rintro e w2 ⟨v, rfl, hO⟩
  have HS := hide (sort_own w.heap.size v xs w2 hO.1 (by omega))
  have HK := hide hO.2
  have HG := hide (owns_here hO.1)
  obtain ⟨a9, c9, rfl⟩ := owns_slice hO.1
  clear hO
  go_wp2_with fail
  refine HS.out.mono ?_
  rintro e w3 ⟨rfl, ho, hk⟩
  go_wp2_with fail
  go_ret
  exact ⟨_, rfl, by rw [sortL_length]; exact ho, HK.out.trans hk (fun i hi h => by have := (HG.out i h).1; omega)⟩
theorem compact_own (base : Nat) (v : Value) (xs : List Int) (w : World) (h : w.ownsRow base 3 1 v xs.length (xs.map (Value.int .i64))) (hn : xs.length ≤ 1000000) :
    Calls Try.prog 22 #[v] w fun e w' => ∃ a c, e = .returned (.slice a (Lib.compact xs).length c) ∧ Ints w' a (Lib.compact xs).length (Lib.compact xs) ∧ Keeps (fun k => v.ownBlock = some k) w w' := by
  obtain ⟨hl, h2⟩ := h
  rcases h2 with ⟨rfl, h0⟩ | ⟨g, cap, cur, rfl, hg, hh, hnc, hcm, hsz, htk⟩
  · have hx : xs = [] := List.eq_nil_of_length_eq_zero h0
    subst hx
    refine (Try.slices_Compact_int_empty none 0 w).mono ?_
    rintro e w' ⟨rfl, rfl⟩
    exact ⟨none, 0, rfl, Ints.nil _ _, Keeps.refl _ _⟩
  · rw [Nat.mul_one] at htk
    have hH := holds_of_block_i (ss := xs) hh htk
    have hlt := (Array.getElem?_eq_some_iff.1 hh).1
    have hcl := Lib.compact_length_le xs
    refine (Try.slices_Compact_int g 0 cap xs w hH (by omega) hnc).mono ?_
    rintro e w' ⟨rfl, q, rfl⟩
    obtain ⟨ts, hts⟩ : ∃ ts, Lib.compact xs ++ List.replicate (xs.length - (Lib.compact xs).length) 0 = ts := ⟨_, rfl⟩
    rw [hts]
    have htl : ts.length = xs.length := by rw [← hts, List.length_append, List.length_replicate]; omega
    have ho := ownsRow_sorted_i (w := w) (base := base) (os := #[]) (n := q) (ts := ts) (ss := xs) htl hg hh hnc hcm hsz
    have hgb := grownBy_sorted_i (w := w) (g := g) (n := q) (os := #[]) ts.toArray
    have e9 : Sort.grow (Sort.putRow encZ (Sort.ahead w q) g 0 ts.toArray) #[] = Sort.putRow encZ (Sort.ahead w q) g 0 ts.toArray := by unfold Sort.grow; rw [Array.append_empty]
    rw [e9] at ho hgb
    refine ⟨_, _, rfl, ?_, keeps_grown (Keeps.refl _ w) hgb (fun k hk => .inl hk)⟩
    obtain ⟨a9, c9, hv, hI⟩ := ints_of_owns (xs := ts) (by rw [← htl] at ho; exact ho) (by omega)
    cases hv
    have hI2 := ints_pre hI (show (Lib.compact xs).length ≤ ts.length by omega)
    have e10 : ts.take (Lib.compact xs).length = Lib.compact xs := by rw [← hts]; exact List.take_left
    rw [e10] at hI2
    exact hI2
end Go.Proofs.Ythpdflpkkiabhaa
