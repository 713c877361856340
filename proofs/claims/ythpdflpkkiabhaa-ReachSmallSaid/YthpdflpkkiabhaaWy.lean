/-
  Walks over layer 7: Ways. No condition.
-/
import Derived.Test.YthpdflpkkiabhaaCl
namespace Go.Proofs.Ythpdflpkkiabhaa
open Go.RowKit Go.Shelf
attribute [local go_sem] onto_cell onto_frozen
attribute [local go_sem] Oper.semAt_some
set_option linter.unusedVariables false
theorem snoc_ind {α : Type} {P : List α → Prop} (h0 : P []) (h1 : ∀ l x, P l → P (l ++ [x])) (l : List α) : P l := by
  have h : ∀ n, ∀ l : List α, l.length = n → P l := by
    intro n
    induction n with
    | zero => intro l hl; rw [List.eq_nil_of_length_eq_zero hl]; exact h0
    | succ n ih =>
      intro l hl
      rcases List.eq_nil_or_concat l with rfl | ⟨r, x, rfl⟩
      · exact h0
      · rw [List.concat_eq_append] at hl ⊢
        exact h1 r x (ih r (by simpa using hl))
  exact h _ l rfl
def stepW (out : List Int) (x : Int × Int) : List Int := out.set x.1.toNat (out.getD x.2.toNat 0 + 1)
def goW (n : Nat) (pre : List (Int × Int)) : List Int := pre.foldl stepW (List.replicate n (-1))
theorem goW_snoc (n : Nat) (pre : List (Int × Int)) (x : Int × Int) : goW n (pre ++ [x]) = stepW (goW n pre) x := by
  unfold goW
  rw [List.foldl_append]
  rfl
theorem goW_length (n : Nat) (pre : List (Int × Int)) : (goW n pre).length = n := by
  induction pre using snoc_ind with
  | h0 => simp [goW]
  | h1 pre x ih => rw [goW_snoc, stepW, List.length_set, ih]
theorem goW_bd (n : Nat) (pre : List (Int × Int)) : ∀ i, -1 ≤ (goW n pre).getD i 0 ∧ (goW n pre).getD i 0 ≤ pre.length := by
  induction pre using snoc_ind with
  | h0 =>
    intro i
    unfold goW
    simp only [List.foldl_nil]
    by_cases h : i < n
    · rw [getD_num (by simpa using h), List.getElem_replicate]
      simp
    · rw [List.getD_eq_getElem?_getD, List.getElem?_eq_none (by simpa using h)]
      simp
  | h1 pre x ih =>
    intro i
    rw [goW_snoc, stepW]
    by_cases h : x.1.toNat = i
    · by_cases hl : i < (goW n pre).length
      · subst h
        rw [getD_num (by rw [List.length_set]; exact hl), List.getElem_set_self]
        have := ih x.2.toNat
        simp only [List.length_append, List.length_singleton]
        omega
      · rw [List.getD_eq_getElem?_getD, List.getElem?_eq_none (by rw [List.length_set]; omega)]
        simp
        omega
    · rw [List.getD_eq_getElem?_getD, List.getElem?_set_ne h, ← List.getD_eq_getElem?_getD]
      have := ih i
      simp only [List.length_append, List.length_singleton]
      omega
/-- What Ways returns. -/
def waysL (next : List (List Int)) (n : Nat) (s : Int) : List Int := goW n (foundL (succL next) (-1) n [s])
theorem found_bd {next : List (List Int)} {l : List Int} (o : Int) (hc : checkB next = true) (hl : ∀ x ∈ l, 0 ≤ x ∧ x < (next.length : Int)) :
    ∀ x ∈ foundL (succL next) o next.length l, (0 ≤ x.1 ∧ x.1 < (next.length : Int)) ∧ 0 ≤ x.2 ∧ x.2 < (next.length : Int) := by
  have h := found_rec (o := o) (checkB_succ hc) hl (fun F k => ∀ y ∈ F, 0 ≤ y.2 ∧ y.2 < (next.length : Int)) ?_ ?_
  · exact fun x hx => ⟨h.1.pt x hx, h.2 x hx⟩
  · intro y hy
    rcases mem_begins hy with h | ⟨h, hm⟩
    · simp at h
    · rw [h]; exact hl _ hm
  · intro F k x hok hI hx y hy
    rcases mem_adds hy with h | ⟨h, hm⟩
    · exact hI y h
    · rw [h]; exact hok.pt x (List.mem_of_getElem? hx)
theorem minus_step (n k : Nat) : rowF n (fun j => if j = k then -1 else if j < k then -1 else 0) = rowF n (fun j => if j < k + 1 then -1 else 0) := rowF_congr fun j hj => by
  by_cases h : j = k
  · rw [if_pos h, if_pos (by omega)]
  · rw [if_neg h]
    by_cases h2 : j < k
    · rw [if_pos h2, if_pos (by omega)]
    · rw [if_neg h2, if_neg (by omega)]
theorem minus_end (n : Nat) : rowF n (fun j => if j < n then -1 else 0) = (List.replicate n (-1 : Int)).map (Value.int .i64) := by
  unfold rowF
  rw [List.map_replicate]
  refine List.ext_getElem (by simp) fun i h1 h2 => ?_
  simp only [List.length_map, List.length_range] at h1
  simp [h1]
set_option maxRecDepth 100000 in
set_option maxHeartbeats 2000000 in
theorem ways_yes (a : Option Addr) (n cap : Nat) (next : List (List Int)) (st : Int) (w : World) (h : Rows w a n next) (hc : checkB next = true) (hs : 0 ≤ st ∧ st < n) :
    Calls Try.prog 15 #[.slice a n cap, .int .i64 st] w fun e w' => ∃ v, e = .returned (.tuple #[v, .int .i64 0]) ∧ NewInts w w' v (waysL next n st) := by
  have hlen := h.len
  subst hlen
  have hn := (checkB_iff.1 hc).1
  have hst1 : ∀ x ∈ [st], 0 ≤ x ∧ x < (next.length : Int) := fun x hx => by rw [List.mem_singleton.1 hx]; exact hs
  obtain ⟨L, hL⟩ : ∃ L, foundL (succL next) (-1) next.length [st] = L := ⟨_, rfl⟩
  have hLn : L.length ≤ next.length := by rw [← hL]; exact found_len _ hc hst1
  have hLb := found_bd (-1) hc hst1
  rw [hL] at hLb
  have HW := hide (wrong_l a (some ⟨w.heap.size, 0, none⟩) next.length cap 1 1 next [st] (w.alloc (.cells #[.int .i64 st] 3)) (h.non ((Keeps.refl _ _).alloc _)) (ints_laid w [st] rfl (by simp)))
  rw [wrongE_ok hc hst1] at HW
  have HR := hide h
  have HC := hide hc
  have HL := hide hL
  have HLb := hide hLb
  have HS1 := hide hst1
  obtain ⟨n, hnn⟩ : ∃ n, next.length = n := ⟨_, rfl⟩
  have HN := hide hnn
  rw [hnn] at HW HR HLb HS1 hn hLn HL ⊢
  clear h hc hst1 hL hLb hnn hs
  refine (callsIn_wide (n := 5)).1 ?_
  refine callsIn_of_wp_marks Try.func15 rfl trivial ?_ rfl
  simp only [Try.ntmps15, List.size_toArray, List.length_cons, List.length_nil, Nat.reduceAdd, Nat.reduceSub, Array.replicate_succ, Array.replicate_zero, List.push_toArray, List.append_toArray, List.nil_append, List.cons_append]
  refine wpIn_wide.2 ?_
  go_wp2_with fail
  refine HW.out.mono ?_
  rintro e w1 ⟨rfl, hk⟩
  have hs1 : w.heap.size + 1 ≤ w1.heap.size := by have := hk.size; rw [World.size_alloc] at this; exact this
  have HK1 := hide (((Keeps.refl Non w).alloc (.cells #[.int .i64 st] 3)).then hk)
  clear hk HW
  have hms := make25 w1 n (by omega)
  obtain ⟨M, hM⟩ : ∃ M, w1.heap.size = M := ⟨_, rfl⟩
  have HM0 : Hid (Blk ((w1.alloc (.cells (Array.replicate n (.int .i64 0)) 3)).alloc (.cells #[.slice (some ⟨M, 0, none⟩) n n] 25)) M (rowF n fun j => if j < 0 then -1 else 0) 3) := by
    have e : rowF n (fun j => if j < 0 then -1 else 0) = List.replicate n (.int .i64 0) := by rw [← rowF_zero]; exact rowF_congr fun j hj => by simp
    rw [e, ← List.toArray_replicate]
    exact (Blk.newAt w1 (List.replicate n (.int .i64 0)) 3 hM.symm).alloc _
  have HX0 : Hid (Blk ((w1.alloc (.cells (Array.replicate n (.int .i64 0)) 3)).alloc (.cells #[.slice (some ⟨M, 0, none⟩) n n] 25)) (M + 1) [.slice (some ⟨M, 0, none⟩) n n] 25) := Blk.newAt _ [.slice (some ⟨M, 0, none⟩) n n] 25 (by simp [hM])
  have HK0 := hide ((HK1.out.alloc (.cells (Array.replicate n (.int .i64 0)) 3)).alloc (.cells #[.slice (some ⟨M, 0, none⟩) n n] 25))
  rw [hM] at hms
  have HMs := hide hM
  go_wp2_with fail
  obtain ⟨W1, hW1⟩ : ∃ W1, (w1.alloc (.cells (Array.replicate n (.int .i64 0)) 3)).alloc (.cells #[.slice (some ⟨M, 0, none⟩) n n] 25) = W1 := ⟨_, rfl⟩
  rw [hW1] at HM0 HX0 HK0
  try rw [hW1]
  try rw [hM]
  clear hms hW1 hM
  go_loopw [23] (fun i wr => ∃ (k : Nat), k ≤ n ∧ i = .int .i64 k ∧ Hid (Blk wr M (rowF n fun j => if j < k then -1 else 0) 3) ∧ Hid (Blk wr (M + 1) [.slice (some ⟨M, 0, none⟩) n n] 25) ∧ Hid (Keeps Non w wr)) (fun i _ => n - (intOf i).toNat)
  case atStart => exact ⟨0, by omega, rfl, HM0.out, HX0.out, HK0.out⟩
  case round =>
    clear HM0 HX0 HK0
    obtain ⟨k, hk, rfl, HM, HX, HK⟩ := hrel
    have cx := HX.out.cell 0
    simp only [List.getElem?_cons_zero] at cx
    by_cases hlt : k < n
    · have cm : wr.cell? ⟨M, k, none⟩ = some (.int .i64 (if k < k then -1 else 0)) := by rw [HM.out.cell]; exact rowF_at _ hlt
      have fm := HM.out.free k none
      have lm := HM.out.lt
      have z0 : (0 : Int) ≤ (k : Int) := by omega
      have z1 : (k : Int) < (n : Int) := by omega
      go_wp2_with fail
      go_roundw
      case rel => exact ⟨k + 1, by omega, by go_num, by
        have h1 := HM.out.store k (.int .i64 (-1))
        rw [rowF_set, minus_step] at h1
        exact h1, HX.out.other (by show M + 1 ≠ M; omega) _, HK.out.set (.inr (by have := HMs.out; have := HK1.out.size; omega)) _⟩
      case measure => simp [intOf]; omega
    · have hkn : k = n := by omega
      subst hkn
      have y9 : ¬ (k : Int) < (k : Int) := by omega
      go_wp2_with fail
      refine (found_any _ _ _ _ _ _ _ _).mono ?_
      rintro e w2 ⟨rfl, rfl⟩
      go_wp2_with fail
      obtain ⟨B, hB⟩ : ∃ B, wr.heap.size = B := ⟨_, rfl⟩
      obtain ⟨W0, hW0⟩ : ∃ W0, (((wr.alloc (.cells #[.int .i64 st] 3)).alloc (.cells #[.slice a k cap] 23)).alloc (.cells #[.int .i64 (-1)] 3)).alloc (.cells #[.slice (some ⟨wr.heap.size, 0, none⟩) 1 1] 25) = W0 := ⟨_, rfl⟩
      have hkw : Keeps Non wr W0 := by rw [← hW0]; exact ((((Keeps.refl _ _).alloc _).alloc _).alloc _).alloc _
      have hkW : Keeps Non w W0 := HK.out.then hkw
      have szW : W0.heap.size = B + 4 := by rw [← hW0, ← hB]; simp
      have b0 : Blk W0 B [.int .i64 st] 3 := by rw [← hW0]; exact (((Blk.newAt _ [.int .i64 st] 3 (by simp [hB])).alloc _).alloc _).alloc _
      have b1 : Blk W0 (B + 1) [.slice a k cap] 23 := by rw [← hW0]; exact ((Blk.newAt _ [.slice a k cap] 23 (by simp [hB])).alloc _).alloc _
      have b2 : Blk W0 (B + 1 + 1) [.int .i64 (-1)] 3 := by rw [← hW0]; exact (Blk.newAt _ [.int .i64 (-1)] 3 (by simp [hB])).alloc _
      have b3 : Blk W0 (B + 1 + 2) [.slice (some ⟨B, 0, none⟩) 1 1] 25 := by rw [← hW0, ← hB]; exact Blk.newAt _ [.slice (some ⟨wr.heap.size, 0, none⟩) 1 1] 25 (by simp)
      have hlM := HM.out.lt
      have hlX := HX.out.lt
      have bM : Blk W0 M ((goW k []).map (Value.int .i64)) 3 := by
        have e : (goW k []).map (Value.int .i64) = rowF k (fun j => if j < k then -1 else 0) := (minus_end k).symm
        rw [e]
        exact HM.out.keeps hkw (fun x => x)
      have bX : Blk W0 (M + 1) [.slice (some ⟨M, 0, none⟩) k k] 25 := HX.out.keeps hkw (fun x => x)
      have hwM : w.heap.size < M := by have := HMs.out; omega
      obtain ⟨AA, CC, hF⟩ := HR.out.fixed
      have hH : Hands 4 65 #[.pointer (some ⟨B + 1, 0, none⟩), .pointer (some ⟨B + 1 + 1, 0, none⟩), .pointer (some ⟨B + 1 + 2, 0, none⟩)] encQ (fun k => k = M) L W0 := by
        rw [← HL.out]
        have e := checkB_succ HC.out
        rw [HN.out] at e
        exact found_hands 4 (by omega) a k cap (some ⟨B, 0, none⟩) 1 1 next [st] (-1) (fun k => k = M) W0 (B + 1) AA CC b1 b2 b3 (by omega) (by omega) (by omega)
          (fun W hk => ⟨hF.non (hkW.trans hk (fun i hi h => by subst h; omega)), ints_of_blk (xs := [st]) (b0.keeps hk (by omega)) (by simp)⟩) (by omega) (by omega) e HS1.out
      have HH := hide hH
      have HkW := hide hkW
      have HbX := hide bX
      rw [hW0, hB]
      clear hW0 hH hF b0 b1 b2 b3 hkW HM HX HK bX hkw
      refine (wpIn_wide (n := 5)).1 ?_
      refine wpIn_hands (n := 5) (by omega) (gf := 65) rfl ent65 HH.out (fun _ => rfl) (fun pre S W => (∀ j, S j ↔ j = M) ∧ Blk W M ((goW k pre).map (Value.int .i64)) 3) (fun j hj => by omega) (fun pre S A B' h kk => ⟨h.1, h.2.keeps kk (fun hh => hh.1 ((h.1 M).2 rfl))⟩) ⟨fun j => Iff.rfl, bM⟩ ?a1 ?assign ?body ?done
      case assign =>
        intro l x W K hK
        unfold encQ
        gi_wp2
        exact hK
      case body =>
        rintro l pre x S A hpre ⟨hSM, hM⟩ hS hkA
        have cx := (HbX.out.keeps hkA (by omega)).cell 0
        simp only [List.getElem?_cons_zero] at cx
        have lx := (HbX.out.keeps hkA (by omega)).lt
        obtain ⟨⟨xp, xf⟩, rfl⟩ : ∃ y, y = x := ⟨_, rfl⟩
        have hxm : (xp, xf) ∈ L := by
          obtain ⟨t, ht⟩ := hpre
          rw [← ht]
          simp
        have hb := HLb.out _ hxm
        simp only at hb
        obtain ⟨pi, rfl⟩ := Int.eq_ofNat_of_zero_le hb.1.1
        obtain ⟨fi, rfl⟩ := Int.eq_ofNat_of_zero_le hb.2.1
        have hpl : pre.length < 2000 := by
          have := hpre.length_le
          rw [List.length_append, List.length_singleton] at this
          omega
        have hgb := goW_bd k pre fi
        obtain ⟨y, hy⟩ : ∃ y, (goW k pre).getD fi 0 = y := ⟨_, rfl⟩
        rw [hy] at hgb
        have cf : A.cell? ⟨M, fi, none⟩ = some (.int .i64 y) := by
          rw [hM.cell, List.getElem?_map, List.getElem?_eq_getElem (by rw [goW_length]; omega), ← hy, getD_num (by rw [goW_length]; omega)]
          rfl
        have cp : A.cell? ⟨M, pi, none⟩ = some (.int .i64 ((goW k pre).getD pi 0)) := by
          rw [hM.cell, List.getElem?_map, List.getElem?_eq_getElem (by rw [goW_length]; omega), getD_num (by rw [goW_length]; omega)]
          rfl
        have fm := hM.free pi none
        have lm := hM.lt
        have p0 : (0 : Int) ≤ (pi : Int) := by omega
        have p1 : (pi : Int) < (k : Int) := by omega
        have q0 : (0 : Int) ≤ (fi : Int) := by omega
        have q1 : (fi : Int) < (k : Int) := by omega
        have HE : Hid (Blk (A.setCell ⟨M, pi, none⟩ (.int .i64 (y + 1))) M ((goW k (pre ++ [((pi : Int), (fi : Int))])).map (Value.int .i64)) 3) := by
          have h1 := hM.store pi (.int .i64 (y + 1))
          rw [← List.map_set] at h1
          rw [goW_snoc, stepW]
          simp only [Int.toNat_natCast]
          rw [hy]
          exact h1
        have HSM := hide hSM
        clear hM hpre hS hkA hxm hb hSM
        have hw9 : IntKind.i64.wrap (y + 1) = y + 1 := IntWalk.i64_in _ (by omega)
        have HPo : Hid (HPost (fun pre S W => (∀ (j : Nat), S j ↔ j = M) ∧ Blk W M ((goW k pre).map (Value.int .i64)) 3) (pre ++ [((pi : Int), (fi : Int))]) S A .normal { tmps := #[], defers := [] } (A.setCell ⟨M, pi, none⟩ (.int .i64 (y + 1))).drew) := by
          refine ⟨S, ⟨HSM.out, HE.out.drew⟩, ((Keeps.refl S A).set (.inl ((HSM.out M).2 rfl)) _).drew, fun j hj => ⟨.inl hj, ?_⟩⟩
          rw [(HSM.out j).1 hj]
          exact HE.out.drew.lt
        gi_wp2
        gi_region
        all_goals
          gi_wp2
          exact HPo.out
      case done =>
        rintro D S W hD ⟨hSM, hM⟩ hkW2 hS hK
        have cx := (HbX.out.keeps hkW2 (by omega)).cell 0
        simp only [List.getElem?_cons_zero] at cx
        have hl : (goW k L).length = k := goW_length _ _
        have HE : Hid (NewInts w (W.putObj D (.deferred none)) (.slice (some ⟨M, 0, none⟩) k k) (waysL next k st)) := by
          unfold waysL
          rw [HL.out]
          refine ⟨M, by rw [hl], by omega, hM.of_eq (World.putObj_heap_other ?_), ?_⟩
          · have := hM.lt; have := (hS M ((hSM M).2 rfl)).2.2; omega
          · exact (HkW.out.trans hkW2 (fun j hj h => by subst h; omega)).putObj (.inr (by have := HkW.out.size; omega)) _
        clear hkW2 hS hM hSM hl
        go_wp2
        refine ⟨by simp, .inl ⟨_, _, rfl, run_takeDeferred hK, ?_⟩⟩
        refine ⟨_, by simp [results, Try.results15, go_sem], _, rfl, HE.out⟩
theorem ways_no (a : Option Addr) (n cap : Nat) (next : List (List Int)) (st : Int) (x : Int) (w : World) (h : Rows w a n next) (hx : wrongE next [st] = x) (h0 : x ≠ 0) :
    Calls Try.prog 15 #[.slice a n cap, .int .i64 st] w fun e w' => e = .returned (.tuple #[.slice none 0 0, .int .i64 x]) ∧ Keeps Non w w' := by
  have HW := hide (wrong_l a (some ⟨w.heap.size, 0, none⟩) n cap 1 1 next [st] (w.alloc (.cells #[.int .i64 st] 3)) (h.non ((Keeps.refl _ _).alloc _)) (ints_laid w [st] rfl (by simp)))
  rw [hx] at HW
  have g1 : (x != 0) = true := by simpa using h0
  clear h hx
  go_enter Try.func15, Try.ntmps15
  go_wp2_with fail
  refine HW.out.mono ?_
  rintro e w1 ⟨rfl, hk⟩
  have HK := hide (((Keeps.refl Non w).alloc (.cells #[.int .i64 st] 3)).then hk)
  clear hk
  go_wp2_with fail
  go_ret2
  exact ⟨rfl, HK.out⟩
end Go.Proofs.Ythpdflpkkiabhaa
