/-
  Walks over layer 7: Closure, Closed; what From, Closure and Closed refuse. No condition.
-/
import Derived.Test.YthpdflpkkiabhaaSo
namespace Go.Proofs.Ythpdflpkkiabhaa
open Go.RowKit Go.Shelf
attribute [local go_sem] onto_cell onto_frozen
attribute [local go_sem] Oper.semAt_some
set_option linter.unusedVariables false
/-- What Closure returns. -/
def closureL (next : List (List Int)) (n : Nat) (l : List Int) : List Int := sortL ((foundL (succL next) (-1) n l).map Prod.fst)
theorem wrongE_ok {next : List (List Int)} {l : List Int} (hc : checkB next = true) (hl : ∀ x ∈ l, 0 ≤ x ∧ x < (next.length : Int)) : wrongE next l = 0 := by
  unfold wrongE
  rw [if_pos hc, if_neg]
  intro h
  obtain ⟨x, hx, h2⟩ := List.any_eq_true.1 h
  rw [badB_no.2 (hl x hx)] at h2
  cases h2
theorem found_len {next : List (List Int)} {l : List Int} (o : Int) (hc : checkB next = true) (hl : ∀ x ∈ l, 0 ≤ x ∧ x < (next.length : Int)) : (foundL (succL next) o next.length l).length ≤ next.length :=
  (found_rec (o := o) (checkB_succ hc) hl (fun _ _ => True) trivial (fun _ _ _ _ _ _ => trivial)).1.few
set_option maxRecDepth 100000 in
set_option maxHeartbeats 2000000 in
theorem closure_yes (a : Option Addr) (n cap : Nat) (next : List (List Int)) (b : Option Addr) (m cap2 : Nat) (l : List Int) (w : World) (h : Rows w a n next) (h2 : Ints w b m l) (hc : checkB next = true) (hl : ∀ x ∈ l, 0 ≤ x ∧ x < (n : Int)) (hm : m ≤ 100000) :
    Calls Try.prog 19 #[.slice a n cap, .slice b m cap2] w fun e w' => ∃ v, e = .returned (.tuple #[v, .int .i64 0]) ∧ OwnI w w' v (closureL next n l) := by
  obtain ⟨i0, hi, hz0, hz1, hz2⟩ := info3_parts
  have hlen := h.len
  subst hlen
  have hn := (checkB_iff.1 hc).1
  obtain ⟨L, hL⟩ : ∃ L, foundL (succL next) (-1) next.length l = L := ⟨_, rfl⟩
  have hLn : L.length ≤ next.length := by
    rw [← hL]
    exact found_len _ hc hl
  have HW := hide (wrong_l a b next.length cap m cap2 next l w h h2)
  rw [wrongE_ok hc hl] at HW
  have HR := hide h
  have H2 := hide h2
  have HC := hide hc
  have HL := hide hL
  have HS1 := hide hl
  clear h hc hl h2 hL
  refine (callsIn_wide (n := 5)).1 ?_
  refine callsIn_of_wp_marks Try.func19 rfl trivial ?_ rfl
  simp only [Try.ntmps19, List.size_toArray, List.length_cons, List.length_nil, Nat.reduceAdd, Nat.reduceSub, Array.replicate_succ, Array.replicate_zero, List.push_toArray, List.append_toArray, List.nil_append, List.cons_append]
  refine wpIn_wide.2 ?_
  go_wp2_with fail
  refine HW.out.mono ?_
  rintro e w1 ⟨rfl, hk⟩
  have HK1 := hide hk
  clear hk HW
  go_wp2_with fail
  refine (found_any _ _ _ _ _ _ _ _).mono ?_
  rintro e w2 ⟨rfl, rfl⟩
  go_wp2_with fail
  obtain ⟨B, hB⟩ : ∃ B, w1.heap.size = B := ⟨_, rfl⟩
  obtain ⟨W0, hW0⟩ : ∃ W0, (((w1.alloc (.cells #[.slice none 0 0] 25)).alloc (.cells #[.slice a next.length cap] 23)).alloc (.cells #[.int .i64 (-1)] 3)).alloc (.cells #[.slice b m cap2] 25) = W0 := ⟨_, rfl⟩
  have hkW : Keeps Non w W0 := by rw [← hW0]; exact ((((HK1.out).alloc _).alloc _).alloc _).alloc _
  have szW : W0.heap.size = B + 4 := by rw [← hW0, ← hB]; simp
  have b0 : Blk W0 B [.slice none 0 0] 25 := by rw [← hW0, ← hB]; exact (((Blk.new w1 [.slice none 0 0] 25).alloc _).alloc _).alloc _
  have b2 : Blk W0 (B + 1) [.slice a next.length cap] 23 := by rw [← hW0]; exact ((Blk.newAt _ [.slice a next.length cap] 23 (by simp [hB])).alloc _).alloc _
  have b3 : Blk W0 (B + 1 + 1) [.int .i64 (-1)] 3 := by rw [← hW0]; exact (Blk.newAt _ [.int .i64 (-1)] 3 (by simp [hB])).alloc _
  have b4 : Blk W0 (B + 1 + 2) [.slice b m cap2] 25 := by rw [← hW0, ← hB]; exact Blk.newAt _ [.slice b m cap2] 25 (by simp)
  have hwB : w.heap.size ≤ B := by rw [← hB]; exact HK1.out.size
  obtain ⟨AA, CC, hF⟩ := HR.out.fixed
  have hH : Hands 4 65 #[.pointer (some ⟨B + 1, 0, none⟩), .pointer (some ⟨B + 1 + 1, 0, none⟩), .pointer (some ⟨B + 1 + 2, 0, none⟩)] encQ (fun k => k = B) L W0 := by
    rw [← HL.out]
    exact found_hands 4 (by omega) a next.length cap b m cap2 next l (-1) (fun k => k = B) W0 (B + 1) AA CC b2 b3 b4 (by omega) (by omega) (by omega)
      (fun W hk => ⟨hF.non (hkW.trans hk (fun i hi h => by subst h; omega)), H2.out.non (hkW.trans hk (fun i hi h => by subst h; omega))⟩) (by omega) (by omega) (checkB_succ HC.out) HS1.out
  have HH := hide hH
  rw [hW0, hB]
  have HkW := hide hkW
  clear hW0 hH hF b2 b3 b4 hkW
  refine (wpIn_wide (n := 5)).1 ?_
  refine wpIn_hands (n := 5) (by omega) (gf := 65) rfl ent65 HH.out (fun _ => rfl) (CollI (w.heap.size) B Prod.fst) (fun k hk => by omega) (fun pre S A B' h k => collI_keeps h k) ⟨_, b0, World.ownsRow_nil _ _ _ _, fun k => by simp [Value.ownBlock]⟩ ?a1 ?assign ?body ?done
  case assign =>
    intro l x W K hK
    unfold encQ
    gi_wp2
    exact hK
  case body =>
    rintro l pre x S A hpre ⟨v, hv, hrow, hSk⟩ hS hkA
    have hc := hv.cell 0
    simp only [List.getElem?_cons_zero] at hc
    have lc := hv.lt
    have hpl : pre.length < 2000 := by
      have := hpre.length_le
      rw [List.length_append, List.length_singleton] at this
      omega
    have hwA : w.heap.size ≤ A.heap.size := by have := hkA.size; omega
    have HV := hide hv
    have HRow := hide hrow
    clear hv hrow hS hkA hpre
    gi_wp2_with (gi_at_builtin; refine wpListIn_append_own_at _ rfl _ _ 25 rfl w.heap.size 3 i0 (.int .i64 0) 1 8 Try.underlying25 hi hz0 hz1 hz2 rfl (by decide) _ _ _ rfl (HRow.out.alloc _) ⟨A.heap.size, 0, none⟩ 1 1 [.int .i64 x.1] rfl rfl (cell_one_new _ _ _) (by simp [Value.oneCell']) (by unfold maxLen; omega) (by omega) (by simp; omega) ?_; intro v' w2 hown' hgrow _ hat; obtain ⟨g', cap', rfl⟩ := ownsRow_succ hown'; obtain ⟨S', hI2, hk2, hS2⟩ := collI_step (f := Prod.fst) (x := x) HV.out hSk HRow.out hown' hgrow hat; have hb2 := hI2; have hB1 : Blk w2 B [v] 25 := (HV.out.alloc _).of_eq (hgrow.block B (HV.out.alloc _).lt (fun e => coll_ne HV.out HRow.out e.symm)); have hf2 := hB1.free 0 none; have hl2 := hB1.lt; have hc2 := hB1.cell 0; simp only [List.getElem?_cons_zero] at hc2; clear hb2)
    exact ⟨S', hI2, hk2, hS2⟩
  case done =>
    rintro D S W hD ⟨v, hv, hrow, hSk⟩ hkW hS hK
    have hc := hv.cell 0
    simp only [List.getElem?_cons_zero] at hc
    have hne := coll_ne hv hrow
    have hDv : v.ownBlock ≠ some D := fun e => (hS D ((hSk D).2 (.inr e))).2.2 rfl
    have hrow2 : W.ownsRow w.heap.size 3 1 v (L.map Prod.fst).length ((L.map Prod.fst).map (Value.int .i64)) := by
      rw [List.length_map, List.map_map]
      exact hrow
    have HSo := hide (sort_own w.heap.size v (L.map Prod.fst) W hrow2 (by rw [List.length_map]; omega))
    have hge := owns_here hrow
    obtain ⟨a9, c9, hv9⟩ := owns_slice hrow
    subst hv9
    have HV := hide hv
    have hDs := (Array.getElem?_eq_some_iff.1 hK).1
    have HE : Hid (∀ w3, w3.ownsRow w.heap.size 3 1 (.slice a9 L.length c9) (L.map Prod.fst).length ((sortL (L.map Prod.fst)).map (Value.int .i64)) → Keeps (fun k => (Value.slice a9 L.length c9).ownBlock = some k) W w3 → OwnI w (w3.putObj D (.deferred none)) (.slice a9 L.length c9) (closureL next next.length l)) := fun w3 ho hk3 => by
      unfold closureL
      rw [HL.out]
      refine ⟨?_, ?_⟩
      · rw [sortL_length]
        refine owns_of_eq ho (fun g hg => World.putObj_heap_other (fun e => hDv (by rw [hg, e])))
      · have hk4 : Keeps Non w W := HkW.out.trans hkW (fun k hk h => by subst h; omega)
        exact (hk4.trans hk3 (fun i hi h => by have := (hge i h).1; omega)).putObj (.inr (by have := HkW.out.size; omega)) _
    have HKD := hide hK
    have HnD := hide hDv
    have HnB := hide hne
    clear hrow hrow2 hv hkW hS hSk hK hDv hne hge
    go_wp2_with fail
    refine HSo.out.mono ?_
    rintro e w3 ⟨rfl, ho, hk3⟩
    have hc3 := (HV.out.keeps hk3 HnB.out).cell 0
    simp only [List.getElem?_cons_zero] at hc3
    have HE3 := hide (HE.out w3 ho hk3)
    have hK3 : w3.heap[D]? = some (.deferred (some [])) := (hk3.block D hDs HnD.out).trans HKD.out
    clear ho hk3 HE
    go_wp2
    refine ⟨by simp, .inl ⟨_, _, rfl, run_takeDeferred hK3, ?_⟩⟩
    refine ⟨_, by simp [results, Try.results19, go_sem], _, rfl, HE3.out⟩
theorem closure_no (a : Option Addr) (n cap : Nat) (next : List (List Int)) (b : Option Addr) (m cap2 : Nat) (l : List Int) (x : Int) (w : World) (h : Rows w a n next) (h2 : Ints w b m l) (hx : wrongE next l = x) (h0 : x ≠ 0) :
    Calls Try.prog 19 #[.slice a n cap, .slice b m cap2] w fun e w' => e = .returned (.tuple #[.slice none 0 0, .int .i64 x]) ∧ Keeps Non w w' := by
  have HW := hide (wrong_l a b n cap m cap2 next l w h h2)
  rw [hx] at HW
  have g1 : (x != 0) = true := by simpa using h0
  clear h h2 hx
  go_enter Try.func19, Try.ntmps19
  go_wp2_with fail
  refine HW.out.mono ?_
  rintro e w1 ⟨rfl, hk⟩
  go_wp2_with fail
  go_ret2
  exact ⟨rfl, hk⟩
theorem from_no (a : Option Addr) (n cap : Nat) (next : List (List Int)) (st : Int) (x : Int) (w : World) (h : Rows w a n next) (hx : wrongE next [st] = x) (h0 : x ≠ 0) :
    Calls Try.prog 27 #[.slice a n cap, .int .i64 st] w fun e w' => e = .returned (.tuple #[.slice none 0 0, .int .i64 x]) ∧ Keeps Non w w' := by
  have HW := hide (wrong_l a (some ⟨w.heap.size, 0, none⟩) n cap 1 1 next [st] (w.alloc (.cells #[.int .i64 st] 3)) (h.non ((Keeps.refl _ _).alloc _)) (ints_laid w [st] rfl (by simp)))
  rw [hx] at HW
  have g1 : (x != 0) = true := by simpa using h0
  clear h hx
  go_enter Try.func27, Try.ntmps27
  go_wp2_with fail
  refine HW.out.mono ?_
  rintro e w1 ⟨rfl, hk⟩
  have HK := hide (((Keeps.refl Non w).alloc (.cells #[.int .i64 st] 3)).then hk)
  clear hk
  go_wp2_with fail
  go_ret2
  exact ⟨rfl, HK.out⟩
/-- What Closed says: no more is reached. -/
def closedB (next : List (List Int)) (n : Nat) (l : List Int) : Bool := decide ((closureL next n l).length = (Lib.compact (sortL l)).length)
theorem closed_yes (a : Option Addr) (n cap : Nat) (next : List (List Int)) (b : Option Addr) (m cap2 : Nat) (l : List Int) (w : World) (h : Rows w a n next) (h2 : Ints w b m l) (hc : checkB next = true) (hl : ∀ x ∈ l, 0 ≤ x ∧ x < (n : Int)) (hm : m ≤ 100000) :
    Calls Try.prog 21 #[.slice a n cap, .slice b m cap2] w fun e w' => e = .returned (.tuple #[.bool (closedB next n l), .int .i64 0]) ∧ Keeps Non w w' := by
  have HC := hide (closure_yes a n cap next b m cap2 l w h h2 hc hl hm)
  have H2 := hide h2
  have hm2 := h2.len
  obtain ⟨p, hp⟩ : ∃ p, (closureL next n l).length = p := ⟨_, rfl⟩
  obtain ⟨q, hq⟩ : ∃ q, (Lib.compact (sortL l)).length = q := ⟨_, rfl⟩
  have HB : Hid (closedB next n l = decide (p = q)) := by
    show _ = _
    unfold closedB
    rw [hp, hq]
  have HP := hide hp
  have HQ := hide hq
  have hsl : (sortL l).length ≤ 100000 := by rw [sortL_length]; omega
  have Hsl := hide hsl
  clear h h2 hc hl hp hq hm2 hsl
  go_enter Try.func21, Try.ntmps21
  go_wp2_with fail
  refine HC.out.mono ?_
  rintro e w2 ⟨v, rfl, hO⟩
  obtain ⟨a9, c9, rfl⟩ := owns_slice hO.1
  have HK := hide hO.2
  rw [HP.out]
  clear hO HC
  go_wp2_with fail
  refine (values_any _ _ _ _).mono ?_
  rintro e w3 ⟨rfl, rfl⟩
  have HS := hide (sorted_l b m cap2 w2.heap.size l (w2.alloc (.cells #[.slice b m cap2] 25)) (H2.out.non (HK.out.alloc _)) hm (Blk.new w2 [.slice b m cap2] 25))
  go_wp2_with fail
  refine HS.out.mono ?_
  rintro e w4 ⟨v, rfl, hO⟩
  have HCo := hide (compact_own _ v (sortL l) w4 hO.1 (by have := Hsl.out; omega))
  have HK4 := hide ((HK.out.alloc (.cells #[.slice b m cap2] 25)).then hO.2)
  have HG := hide (owns_here hO.1)
  obtain ⟨a8, c8, rfl⟩ := owns_slice hO.1
  clear hO HS
  go_wp2_with fail
  refine HCo.out.mono ?_
  rintro e w5 ⟨a7, c7, rfl, hI, hk5⟩
  have HK5 : Hid (Keeps Non w w5) := HK4.out.trans hk5 (fun i hi h => by have h1 := (HG.out i h).1; rw [World.size_alloc] at h1; have := HK.out.size; omega)
  rw [HQ.out]
  clear hI hk5 HCo
  go_wp2_with fail
  go_ret2
  refine ⟨?_, HK5.out⟩
  have e9 : ((p : Int) == (q : Int)) = decide (p = q) := by
    by_cases h : p = q
    · subst h; simp
    · simp [h]; omega
  rw [HB.out, ← e9]
  rfl
theorem closed_no (a : Option Addr) (n cap : Nat) (next : List (List Int)) (b : Option Addr) (m cap2 : Nat) (l : List Int) (x : Int) (w : World) (h : Rows w a n next) (h2 : Ints w b m l) (hx : wrongE next l = x) (h0 : x ≠ 0) :
    Calls Try.prog 21 #[.slice a n cap, .slice b m cap2] w fun e w' => e = .returned (.tuple #[.bool false, .int .i64 x]) ∧ Keeps Non w w' := by
  have HW := hide (closure_no a n cap next b m cap2 l x w h h2 hx h0)
  have g1 : (x != 0) = true := by simpa using h0
  clear h h2 hx
  go_enter Try.func21, Try.ntmps21
  go_wp2_with fail
  refine HW.out.mono ?_
  rintro e w1 ⟨rfl, hk⟩
  go_wp2_with fail
  go_ret2
  exact ⟨rfl, hk⟩
end Go.Proofs.Ythpdflpkkiabhaa
