/-
  one: what is done from a start, compared with the reference. No condition.
-/
import Derived.Test.YthpdflpkkiabhaaXc
import Derived.Test.YthpdflpkkiabhaaXe
import Derived.Test.YthpdflpkkiabhaaXf
import Derived.Test.YthpdflpkkiabhaaCp
import Derived.Test.YthpdflpkkiabhaaLf
namespace Go.Proofs.Ythpdflpkkiabhaa
open Go.RowKit
attribute [local go_sem] onto_cell onto_frozen
set_option linter.unusedVariables false
theorem y_copied (a : Option Addr) (n cap : Nat) (next : List (List Int)) (w : World) (h : Rows w a n next) (hn : n ≤ 100000) (hl : ∀ i, (next.getD i []).length ≤ 1000000) :
    Calls Try.prog 38 #[.slice a n cap] w fun e w' => ∃ b c, e = .returned (.slice b n c) ∧ Rows w' b n next ∧ Keeps Non w w' :=
  (copied_l a n cap next w h hn hl).mono fun e w' ⟨v, he, b, c, hv, hR, hk⟩ => by
    subst hv
    rw [h.len] at hR he
    exact ⟨b, c, he, hR, hk⟩
theorem y_from (a : Option Addr) (n cap : Nat) (next : List (List Int)) (st : Int) (A : List Int) (L : Nat) (w : World) (h : Rows w a n next) (hc : checkB next = true) (hs : 0 ≤ st ∧ st < n) (hA : fromL next n st = A) (hL : A.length = L) (hb : L ≤ 100000) :
    Calls Try.prog 27 #[.slice a n cap, .int .i64 st] w fun e w' => ∃ a' c', e = .returned (.tuple #[.slice a' L c', .int .i64 0]) ∧ Ints w' a' L A ∧ Keeps Non w w' :=
  (from_yes a n cap next st w h hc hs).mono fun e w' ⟨v, he, hO⟩ => by
    rw [hA] at hO
    obtain ⟨a9, c9, rfl, hI⟩ := ints_of_owns hO.1 (by omega)
    rw [hL] at hI he
    exact ⟨a9, c9, he, hI, hO.2⟩
theorem y_ways (a : Option Addr) (n cap : Nat) (next : List (List Int)) (st : Int) (W : List Int) (w : World) (h : Rows w a n next) (hc : checkB next = true) (hs : 0 ≤ st ∧ st < n) (hW : waysL next n st = W) :
    Calls Try.prog 15 #[.slice a n cap, .int .i64 st] w fun e w' => ∃ b, e = .returned (.tuple #[.slice (some ⟨b, 0, none⟩) n n, .int .i64 0]) ∧ Ints w' (some ⟨b, 0, none⟩) n W ∧ Keeps Non w w' := by
  have hl : (waysL next n st).length = n := goW_length _ _
  have hb := h.big
  refine (ways_yes a n cap next st w h hc hs).mono fun e w' ⟨v, he, b, hv, _, hB, hk⟩ => ?_
  subst hv
  rw [hW] at hl hB he
  have hI := ints_of_blk hB (by omega)
  rw [hl] at hI he
  exact ⟨b, he, hI, hk⟩
theorem y_newrows {w w' : World} {v : Value} {xss : List (List Int)} {n : Nat} (h : NewRows w w' v xss) (hl : xss.length = n) (hn : n ≤ 100000) (hs : ∀ i, (xss.getD i []).length ≤ 100000) : ∃ b, v = .slice (some ⟨b, 0, none⟩) n n ∧ Rows w' (some ⟨b, 0, none⟩) n xss ∧ Keeps Non w w' := by
  obtain ⟨B, S, hv, _, hR, hk⟩ := h
  have hr := hR.rows (by omega) (fun i => by have := hs i; omega)
  rw [hl] at hr hv
  exact ⟨B, hv, hr, hk⟩
theorem y_musts (a : Option Addr) (n cap : Nat) (next : List (List Int)) (st : Int) (M : List (List Int)) (w : World) (h : Rows w a n next) (hc : checkB next = true) (hs : 0 ≤ st ∧ st < n) (hM : mustsL next n st = M) (hn : n ≤ 100000) :
    Calls Try.prog 36 #[.slice a n cap, .int .i64 st] w fun e w' => ∃ b, e = .returned (.tuple #[.slice (some ⟨b, 0, none⟩) n n, .int .i64 0]) ∧ Rows w' (some ⟨b, 0, none⟩) n M ∧ Keeps Non w w' :=
  (musts_yes a n cap next st w h hc hs).mono fun e w' ⟨v, he, hN⟩ => by
    have hlen := h.len
    have hsh := fun p => mustsL_short2 (s := st) hc (by rw [hlen]; exact hs) n p
    rw [hlen] at hsh
    obtain ⟨b, hv, hR, hk⟩ := y_newrows hN (mustTo_length _ _ _ _) hn (fun i => Nat.le_trans (hsh i) (by omega))
    subst hv
    rw [hM] at hR
    exact ⟨b, he, hR, hk⟩
theorem y_back (a : Option Addr) (n cap : Nat) (next : List (List Int)) (M : List (List Int)) (w : World) (h : Rows w a n next) (hc : checkB next = true) (hM : backL next n = M) (hn : n ≤ 100000) :
    Calls Try.prog 31 #[.slice a n cap] w fun e w' => ∃ b, e = .returned (.tuple #[.slice (some ⟨b, 0, none⟩) n n, .int .i64 0]) ∧ Rows w' (some ⟨b, 0, none⟩) n M ∧ Keeps Non w w' :=
  (back_yes a n cap next w h hc).mono fun e w' ⟨v, he, hN⟩ => by
    have hlen := h.len
    have hsh := fun i => backTo_short next n n (by omega) i
    have ht := total_take_le next n
    have hc2 := (checkB_iff.1 hc).2.1
    obtain ⟨b, hv, hR, hk⟩ := y_newrows hN (backL_length _ _) hn (fun i => by have := hsh i; unfold backL; omega)
    subst hv
    rw [hM] at hR
    exact ⟨b, he, hR, hk⟩
theorem y_rings (a : Option Addr) (n cap : Nat) (next : List (List Int)) (R : List Int) (w : World) (h : Rows w a n next) (hc : checkB next = true) (hR : ringsL next n = R) :
    Calls Try.prog 14 #[.slice a n cap] w fun e w' => ∃ b, e = .returned (.tuple #[.slice (some ⟨b, 0, none⟩) n n, .int .i64 0]) ∧ Ints w' (some ⟨b, 0, none⟩) n R ∧ Keeps Non w w' := by
  have hl := ringsL_length next n
  have hb := h.big
  refine (rings_yes a n cap next w h hc).mono fun e w' ⟨v, he, b, hv, _, hB, hk⟩ => ?_
  subst hv
  rw [hR] at hl hB he
  have hI := ints_of_blk hB (by omega)
  rw [hl] at hI he
  exact ⟨b, he, hI, hk⟩
theorem row_small {next : List (List Int)} (h : total next ≤ 200) : ∀ i, (next.getD i []).length ≤ 200 := fun i => by
  by_cases hi : i < next.length
  · have h1 := total_take_succ (next := next) (k := i) hi
    have h2 := total_take_le next (i + 1)
    omega
  · rw [List.getD_eq_getElem?_getD, List.getElem?_eq_none (by omega)]
    simp
set_option maxRecDepth 100000 in
set_option maxHeartbeats 4000000 in
theorem one_bad (a : Option Addr) (n cap : Nat) (next : List (List Int)) (st : Int) (w : World) (h : Rows w a n next) (hn : n ≤ 25) (ht : total next ≤ 200) (hc : ¬ checkB next = true) :
    Calls Try.prog 33 #[.slice a n cap, .int .i64 st] w fun e w' => e = .returned (.bool true) ∧ Keeps Non w w' := by
  have HX := hide h
  have HSm := hide (row_small ht)
  have HCp := hide (y_copied a n cap next w h (by omega) (fun i => by have := row_small ht i; omega))
  have hwr : wrongE next [st] = 70 := by unfold wrongE; rw [if_neg hc]
  have HWr := hide hwr
  have HNc := hide hc
  have HTt := hide ht
  have hck : checkE next = 70 := if_neg hc
  have HCk := hide hck
  have hcf : checkB next = false := by simpa using hc
  have HCf := hide hcf
  clear h ht hc hwr hck hcf
  go_enter Try.func33, Try.ntmps33
  go_wp2_with fail
  refine HCp.out.mono ?_
  rintro e w1 ⟨b, c, rfl, hR, hk⟩
  have HR := hide hR
  have HK := hide hk
  clear hR hk HCp
  have C1 := hide (from_no b n c next st 70 w1 HR.out HWr.out (by omega))
  go_wp2_with fail
  refine C1.out.mono ?_
  rintro e w2 ⟨rfl, hk⟩
  replace HR := hide (HR.out.non hk)
  replace HK := hide (HK.out.then hk)
  clear hk C1
  have C1 := hide (ways_no b n c next st 70 w2 HR.out HWr.out (by omega))
  go_wp2_with fail
  refine C1.out.mono ?_
  rintro e w3 ⟨rfl, hk⟩
  replace HR := hide (HR.out.non hk)
  replace HK := hide (HK.out.then hk)
  clear hk C1
  have C1 := hide (musts_no b n c next st 70 w3 HR.out HWr.out (by omega))
  go_wp2_with fail
  refine C1.out.mono ?_
  rintro e w4 ⟨rfl, hk⟩
  replace HR := hide (HR.out.non hk)
  replace HK := hide (HK.out.then hk)
  clear hk C1
  have C1 := hide (back_no b n c next w4 HR.out HNc.out)
  go_wp2_with fail
  refine C1.out.mono ?_
  rintro e w5 ⟨rfl, hk⟩
  replace HR := hide (HR.out.non hk)
  replace HK := hide (HK.out.then hk)
  clear hk C1
  have C1 := hide (rings_no b n c next w5 HR.out HNc.out)
  go_wp2_with fail
  refine C1.out.mono ?_
  rintro e w6 ⟨rfl, hk⟩
  replace HR := hide (HR.out.non hk)
  replace HK := hide (HK.out.then hk)
  clear hk C1
  have C1 := hide (lists_l b n c next a n cap next w6 HR.out (HX.out.non HK.out))
  rw [decide_eq_true rfl] at C1
  go_wp2_with fail
  refine C1.out.mono ?_
  rintro e w7 ⟨rfl, hk⟩
  replace HR := hide (HR.out.non hk)
  replace HK := hide (HK.out.then hk)
  clear hk C1
  have C1 := hide (refcheck_l a n cap next w7 (HX.out.non HK.out) hn HTt.out)
  rw [HCf.out] at C1
  go_wp2_with fail
  refine C1.out.mono ?_
  rintro e w8 ⟨rfl, hk⟩
  replace HR := hide (HR.out.non hk)
  replace HK := hide (HK.out.then hk)
  clear hk C1
  have C1 := hide (check_l b n c next w8 HR.out)
  rw [HCk.out] at C1
  go_wp2_with fail
  refine C1.out.mono ?_
  rintro e w9 ⟨rfl, hk⟩
  replace HK := hide (HK.out.then hk)
  clear hk C1
  go_wp2_with fail
  go_ret
  exact ⟨rfl, HK.out⟩
set_option maxRecDepth 100000 in
set_option maxHeartbeats 8000000 in
theorem one_out (a : Option Addr) (n cap : Nat) (next : List (List Int)) (st : Int) (w : World) (h : Rows w a n next) (hn : n ≤ 25) (ht : total next ≤ 200) (hc : checkB next = true) (hs : ¬ (0 ≤ st ∧ st < (n : Int))) :
    Calls Try.prog 33 #[.slice a n cap, .int .i64 st] w fun e w' => e = .returned (.bool true) ∧ Keeps Non w w' := by
  have HX := hide h
  have HCp := hide (y_copied a n cap next w h (by omega) (fun i => by have := row_small ht i; omega))
  have hlen := h.len
  have hwr : wrongE next [st] = 2 := by
    unfold wrongE
    rw [if_pos hc, if_pos]
    simp only [List.any_cons, List.any_nil, Bool.or_false]
    rw [← Bool.not_eq_false, badB_no, hlen]
    exact hs
  have HWr := hide hwr
  have HC := hide hc
  have HTt := hide ht
  have hck : checkE next = 0 := if_pos hc
  have HCk := hide hck
  obtain ⟨Bk, hBk⟩ : ∃ B, backL next n = B := ⟨_, rfl⟩
  obtain ⟨Rg, hRg⟩ : ∃ B, ringsL next n = B := ⟨_, rfl⟩
  have hbl := backL_length next n
  have hrl := ringsL_length next n
  rw [hBk] at hbl
  rw [hRg] at hrl
  have HBk := hide hBk
  have HRg := hide hRg
  have HBl := hide hbl
  have HRl := hide hrl
  have HS := hide (row_small ht)
  have hcase : (st < 0 ∧ decide (st < 0) = true) ∨ (¬ st < 0 ∧ decide (st < 0) = false ∧ (n : Int) ≤ st) := by
    by_cases h1 : st < 0
    · exact .inl ⟨h1, decide_eq_true h1⟩
    · exact .inr ⟨h1, decide_eq_false h1, by omega⟩
  clear h ht hc hwr hck hlen hBk hRg hbl hrl hs
  go_enter Try.func33, Try.ntmps33
  go_wp2_with fail
  refine HCp.out.mono ?_
  rintro e w1 ⟨b, c, rfl, hR, hk⟩
  have HR := hide hR
  have HK := hide hk
  clear hR hk HCp
  have C1 := hide (from_no b n c next st 2 w1 HR.out HWr.out (by omega))
  go_wp2_with fail
  refine C1.out.mono ?_
  rintro e w2 ⟨rfl, hk⟩
  replace HR := hide (HR.out.non hk)
  replace HK := hide (HK.out.then hk)
  clear hk C1
  have C1 := hide (ways_no b n c next st 2 w2 HR.out HWr.out (by omega))
  go_wp2_with fail
  refine C1.out.mono ?_
  rintro e w3 ⟨rfl, hk⟩
  replace HR := hide (HR.out.non hk)
  replace HK := hide (HK.out.then hk)
  clear hk C1
  have C1 := hide (musts_no b n c next st 2 w3 HR.out HWr.out (by omega))
  go_wp2_with fail
  refine C1.out.mono ?_
  rintro e w4 ⟨rfl, hk⟩
  replace HR := hide (HR.out.non hk)
  replace HK := hide (HK.out.then hk)
  clear hk C1
  have C1 := hide (y_back b n c next Bk w4 HR.out HC.out HBk.out (by omega))
  go_wp2_with fail
  refine C1.out.mono ?_
  rintro e w5 ⟨b5, rfl, hI, hk⟩
  have HB5 := hide hI
  replace HR := hide (HR.out.non hk)
  replace HK := hide (HK.out.then hk)
  clear hk C1 hI
  have C1 := hide (y_rings b n c next Rg w5 HR.out HC.out HRg.out)
  go_wp2_with fail
  refine C1.out.mono ?_
  rintro e w6 ⟨b6, rfl, hI, hk⟩
  have HI6 := hide hI
  replace HR := hide (HR.out.non hk)
  replace HB5 := hide (HB5.out.non hk)
  replace HK := hide (HK.out.then hk)
  clear hk C1 hI
  have C1 := hide (lists_l b n c next a n cap next w6 HR.out (HX.out.non HK.out))
  rw [decide_eq_true rfl] at C1
  go_wp2_with fail
  refine C1.out.mono ?_
  rintro e w7 ⟨rfl, hk⟩
  replace HR := hide (HR.out.non hk)
  replace HB5 := hide (HB5.out.non hk)
  replace HI6 := hide (HI6.out.non hk)
  replace HK := hide (HK.out.then hk)
  clear hk C1
  have C1 := hide (refcheck_l a n cap next w7 (HX.out.non HK.out) hn HTt.out)
  rw [HC.out] at C1
  go_wp2_with fail
  refine C1.out.mono ?_
  rintro e w8 ⟨rfl, hk⟩
  replace HR := hide (HR.out.non hk)
  replace HB5 := hide (HB5.out.non hk)
  replace HI6 := hide (HI6.out.non hk)
  replace HK := hide (HK.out.then hk)
  clear hk C1
  have C1 := hide (check_l b n c next w8 HR.out)
  rw [HCk.out] at C1
  go_wp2_with fail
  refine C1.out.mono ?_
  rintro e w9 ⟨rfl, hk⟩
  replace HB5 := hide (HB5.out.non hk)
  replace HI6 := hide (HI6.out.non hk)
  replace HK := hide (HK.out.then hk)
  clear hk C1
  have C1 := hide (refback_l a n cap next w9 (HX.out.non HK.out) HC.out hn)
  rw [HBk.out] at C1
  go_wp2_with fail
  refine C1.out.mono ?_
  rintro e y1 ⟨v, rfl, a1, c1, rfl, hR1, hk⟩
  rw [HBl.out] at hR1 ⊢
  have C2 := hide (lists_l (some ⟨b5, 0, none⟩) n n Bk a1 n c1 Bk y1 (HB5.out.non hk) hR1)
  rw [decide_eq_true rfl] at C2
  replace HI6 := hide (HI6.out.non hk)
  replace HK := hide (HK.out.then hk)
  clear hk C1 hR1
  go_wp2_with fail
  refine C2.out.mono ?_
  rintro e y2 ⟨rfl, hk⟩
  replace HI6 := hide (HI6.out.non hk)
  replace HK := hide (HK.out.then hk)
  clear hk C2
  have C1 := hide (refrings_l a n cap next y2 (HX.out.non HK.out) HC.out hn (fun i => by have := HS.out i; omega))
  rw [HRg.out] at C1
  go_wp2_with fail
  refine C1.out.mono ?_
  rintro e y3 ⟨v, rfl, a3, c3, rfl, hI3, hk⟩
  rw [HRl.out] at hI3 ⊢
  have C2 := hide (equal_any (some ⟨b6, 0, none⟩) n n Rg a3 n c3 Rg y3 (HI6.out.non hk) hI3)
  rw [decide_eq_true rfl] at C2
  replace HK := hide (HK.out.then hk)
  clear hk C1 hI3
  go_wp2_with fail
  refine C2.out.mono ?_
  rintro e y4 ⟨rfl, hk⟩
  replace HK := hide (HK.out.then hk)
  clear hk C2
  rcases hcase with ⟨g1, g2⟩ | ⟨g1, g2, g3⟩
  all_goals
    go_wp2_with fail
    go_ret
    exact ⟨rfl, HK.out⟩
set_option maxRecDepth 100000 in
set_option maxHeartbeats 8000000 in
theorem one_in (a : Option Addr) (n cap : Nat) (next : List (List Int)) (st : Nat) (w : World) (h : Rows w a n next) (hn : n ≤ 25) (ht : total next ≤ 200) (hc : checkB next = true) (hs : st < n) :
    Calls Try.prog 33 #[.slice a n cap, .int .i64 (st : Int)] w fun e w' => e = .returned (.bool true) ∧ Keeps Non w w' := by
  have HX := hide h
  have HCp := hide (y_copied a n cap next w h (by omega) (fun i => by have := row_small ht i; omega))
  have hlen := h.len
  have HC := hide hc
  have HTt := hide ht
  have hck : checkE next = 0 := if_pos hc
  have HCk := hide hck
  obtain ⟨Bk, hBk⟩ : ∃ B, backL next n = B := ⟨_, rfl⟩
  obtain ⟨Rg, hRg⟩ : ∃ B, ringsL next n = B := ⟨_, rfl⟩
  obtain ⟨A, hA⟩ : ∃ B, fromL next n (st : Int) = B := ⟨_, rfl⟩
  obtain ⟨W, hW⟩ : ∃ B, waysL next n (st : Int) = B := ⟨_, rfl⟩
  obtain ⟨M, hM⟩ : ∃ B, mustsL next n (st : Int) = B := ⟨_, rfl⟩
  have hbl := backL_length next n
  have hrl := ringsL_length next n
  have hml : (mustsL next n (st : Int)).length = n := mustTo_length _ _ _ _
  have hwl : (waysL next n (st : Int)).length = n := goW_length _ _
  have hal : (fromL next n (st : Int)).length ≤ n := by
    have := found_len (-1) hc (l := [(st : Int)]) (fun x hx => by rw [List.mem_singleton.1 hx, hlen]; omega)
    rw [hlen] at this
    unfold fromL
    rw [List.length_map]
    exact this
  rw [hBk] at hbl
  rw [hRg] at hrl
  rw [hM] at hml
  rw [hW] at hwl
  rw [hA] at hal
  obtain ⟨L, hL⟩ : ∃ L, A.length = L := ⟨_, rfl⟩
  rw [hL] at hal
  have HBk := hide hBk
  have HRg := hide hRg
  have HBl := hide hbl
  have HRl := hide hrl
  have HA := hide hA
  have HW := hide hW
  have HM := hide hM
  have HMl := hide hml
  have HWl := hide hwl
  have HL := hide hL
  have HS := hide (row_small ht)
  have s0 : (0 : Int) ≤ (st : Int) := by omega
  have s1 : (st : Int) < (n : Int) := by omega
  have s2 : ¬ (st : Int) < 0 := by omega
  have s3 : ¬ (n : Int) ≤ (st : Int) := by omega
  clear h ht hc hck hlen hBk hRg hbl hrl hA hW hM hml hwl hL
  go_enter Try.func33, Try.ntmps33
  go_wp2_with fail
  refine HCp.out.mono ?_
  rintro e w1 ⟨b, c, rfl, hR, hk⟩
  have HR := hide hR
  have HK := hide hk
  clear hR hk HCp
  have C1 := hide (y_from b n c next st A L w1 HR.out HC.out ⟨s0, s1⟩ HA.out HL.out (by omega))
  go_wp2_with fail
  refine C1.out.mono ?_
  rintro e w2 ⟨a2, c2, rfl, hI, hk⟩
  have HI2 := hide hI
  replace HR := hide (HR.out.non hk)
  replace HK := hide (HK.out.then hk)
  clear hk C1 hI
  have C1 := hide (y_ways b n c next st W w2 HR.out HC.out ⟨s0, s1⟩ HW.out)
  go_wp2_with fail
  refine C1.out.mono ?_
  rintro e w3 ⟨b3, rfl, hI, hk⟩
  have HI3 := hide hI
  replace HR := hide (HR.out.non hk)
  replace HI2 := hide (HI2.out.non hk)
  replace HK := hide (HK.out.then hk)
  clear hk C1 hI
  have C1 := hide (y_musts b n c next st M w3 HR.out HC.out ⟨s0, s1⟩ HM.out (by omega))
  go_wp2_with fail
  refine C1.out.mono ?_
  rintro e w4 ⟨b4, rfl, hI, hk⟩
  have HR4 := hide hI
  replace HR := hide (HR.out.non hk)
  replace HI2 := hide (HI2.out.non hk)
  replace HI3 := hide (HI3.out.non hk)
  replace HK := hide (HK.out.then hk)
  clear hk C1 hI
  have C1 := hide (y_back b n c next Bk w4 HR.out HC.out HBk.out (by omega))
  go_wp2_with fail
  refine C1.out.mono ?_
  rintro e w5 ⟨b5, rfl, hI, hk⟩
  have HB5 := hide hI
  replace HR := hide (HR.out.non hk)
  replace HI2 := hide (HI2.out.non hk)
  replace HI3 := hide (HI3.out.non hk)
  replace HR4 := hide (HR4.out.non hk)
  replace HK := hide (HK.out.then hk)
  clear hk C1 hI
  have C1 := hide (y_rings b n c next Rg w5 HR.out HC.out HRg.out)
  go_wp2_with fail
  refine C1.out.mono ?_
  rintro e w6 ⟨b6, rfl, hI, hk⟩
  have HI6 := hide hI
  replace HR := hide (HR.out.non hk)
  replace HI2 := hide (HI2.out.non hk)
  replace HI3 := hide (HI3.out.non hk)
  replace HR4 := hide (HR4.out.non hk)
  replace HB5 := hide (HB5.out.non hk)
  replace HK := hide (HK.out.then hk)
  clear hk C1 hI
  have C1 := hide (lists_l b n c next a n cap next w6 HR.out (HX.out.non HK.out))
  rw [decide_eq_true rfl] at C1
  go_wp2_with fail
  refine C1.out.mono ?_
  rintro e w7 ⟨rfl, hk⟩
  replace HR := hide (HR.out.non hk)
  replace HI2 := hide (HI2.out.non hk)
  replace HI3 := hide (HI3.out.non hk)
  replace HR4 := hide (HR4.out.non hk)
  replace HB5 := hide (HB5.out.non hk)
  replace HI6 := hide (HI6.out.non hk)
  replace HK := hide (HK.out.then hk)
  clear hk C1
  have C1 := hide (refcheck_l a n cap next w7 (HX.out.non HK.out) hn HTt.out)
  rw [HC.out] at C1
  go_wp2_with fail
  refine C1.out.mono ?_
  rintro e w8 ⟨rfl, hk⟩
  replace HR := hide (HR.out.non hk)
  replace HI2 := hide (HI2.out.non hk)
  replace HI3 := hide (HI3.out.non hk)
  replace HR4 := hide (HR4.out.non hk)
  replace HB5 := hide (HB5.out.non hk)
  replace HI6 := hide (HI6.out.non hk)
  replace HK := hide (HK.out.then hk)
  clear hk C1
  have C1 := hide (check_l b n c next w8 HR.out)
  rw [HCk.out] at C1
  go_wp2_with fail
  refine C1.out.mono ?_
  rintro e w9 ⟨rfl, hk⟩
  replace HI2 := hide (HI2.out.non hk)
  replace HI3 := hide (HI3.out.non hk)
  replace HR4 := hide (HR4.out.non hk)
  replace HB5 := hide (HB5.out.non hk)
  replace HI6 := hide (HI6.out.non hk)
  replace HK := hide (HK.out.then hk)
  clear hk C1 HR
  have C1 := hide (refback_l a n cap next w9 (HX.out.non HK.out) HC.out hn)
  rw [HBk.out] at C1
  go_wp2_with fail
  refine C1.out.mono ?_
  rintro e y1 ⟨v, rfl, a1, c1, rfl, hR1, hk⟩
  rw [HBl.out] at hR1 ⊢
  have C2 := hide (lists_l (some ⟨b5, 0, none⟩) n n Bk a1 n c1 Bk y1 (HB5.out.non hk) hR1)
  rw [decide_eq_true rfl] at C2
  replace HI2 := hide (HI2.out.non hk)
  replace HI3 := hide (HI3.out.non hk)
  replace HR4 := hide (HR4.out.non hk)
  replace HI6 := hide (HI6.out.non hk)
  replace HK := hide (HK.out.then hk)
  clear hk C1 hR1 HB5
  go_wp2_with fail
  refine C2.out.mono ?_
  rintro e y2 ⟨rfl, hk⟩
  replace HI2 := hide (HI2.out.non hk)
  replace HI3 := hide (HI3.out.non hk)
  replace HR4 := hide (HR4.out.non hk)
  replace HI6 := hide (HI6.out.non hk)
  replace HK := hide (HK.out.then hk)
  clear hk C2
  have C1 := hide (refrings_l a n cap next y2 (HX.out.non HK.out) HC.out hn (fun i => by have := HS.out i; omega))
  rw [HRg.out] at C1
  go_wp2_with fail
  refine C1.out.mono ?_
  rintro e y3 ⟨v, rfl, a3, c3, rfl, hI3, hk⟩
  rw [HRl.out] at hI3 ⊢
  have C2 := hide (equal_any (some ⟨b6, 0, none⟩) n n Rg a3 n c3 Rg y3 (HI6.out.non hk) hI3)
  rw [decide_eq_true rfl] at C2
  replace HI2 := hide (HI2.out.non hk)
  replace HI3 := hide (HI3.out.non hk)
  replace HR4 := hide (HR4.out.non hk)
  replace HK := hide (HK.out.then hk)
  clear hk C1 hI3 HI6
  go_wp2_with fail
  refine C2.out.mono ?_
  rintro e y4 ⟨rfl, hk⟩
  replace HI2 := hide (HI2.out.non hk)
  replace HI3 := hide (HI3.out.non hk)
  replace HR4 := hide (HR4.out.non hk)
  replace HK := hide (HK.out.then hk)
  clear hk C2
  have C1 := hide (reffrom_l a n cap next st y4 (HX.out.non HK.out) HC.out ⟨s0, s1⟩ hn HTt.out)
  rw [HA.out] at C1
  go_wp2_with fail
  refine C1.out.mono ?_
  rintro e y5 ⟨v, rfl, hO⟩
  obtain ⟨a5, c5, hv5, hI5⟩ := ints_of_owns hO.1 (by rw [HL.out]; omega)
  subst hv5
  have hk := hO.2
  rw [HL.out] at hI5 ⊢
  have C2 := hide (equal_any a2 L c2 A a5 L c5 A y5 (HI2.out.non hk) hI5)
  rw [decide_eq_true rfl] at C2
  replace HI3 := hide (HI3.out.non hk)
  replace HR4 := hide (HR4.out.non hk)
  replace HK := hide (HK.out.then hk)
  clear hk C1 hI5 HI2 hO
  go_wp2_with fail
  refine C2.out.mono ?_
  rintro e y6 ⟨rfl, hk⟩
  replace HI3 := hide (HI3.out.non hk)
  replace HR4 := hide (HR4.out.non hk)
  replace HK := hide (HK.out.then hk)
  clear hk C2
  have C1 := hide (refways_l a n cap next st y6 (HX.out.non HK.out) HC.out hs hn (fun i => by have := HS.out i; omega))
  rw [HW.out] at C1
  go_wp2_with fail
  refine C1.out.mono ?_
  rintro e y7 ⟨v, rfl, b7, rfl, _, hB7, hk⟩
  have hI7 := ints_of_blk hB7 (by rw [HWl.out]; omega)
  rw [HWl.out] at hI7 ⊢
  have C2 := hide (equal_any (some ⟨b3, 0, none⟩) n n W (some ⟨b7, 0, none⟩) n n W y7 (HI3.out.non hk) hI7)
  rw [decide_eq_true rfl] at C2
  replace HR4 := hide (HR4.out.non hk)
  replace HK := hide (HK.out.then hk)
  clear hk C1 hI7 HI3 hB7
  go_wp2_with fail
  refine C2.out.mono ?_
  rintro e y8 ⟨rfl, hk⟩
  replace HR4 := hide (HR4.out.non hk)
  replace HK := hide (HK.out.then hk)
  clear hk C2
  have C1 := hide (refmusts_l a n cap next st y8 (HX.out.non HK.out) HC.out hs hn HS.out)
  rw [HM.out] at C1
  go_wp2_with fail
  refine C1.out.mono ?_
  rintro e y9 ⟨v, rfl, B9, S9, rfl, _, hR9, hk⟩
  have hRr := hR9.rows (by rw [HMl.out]; omega) (fun i => by
    obtain ⟨b8, o8, _, _, hc8⟩ := HR4.out.at (by omega)
    by_cases hi : i < n
    · obtain ⟨a8, c8, _, hI8⟩ := hc8 i hi
      exact hI8.big
    · rw [List.getD_eq_getElem?_getD, List.getElem?_eq_none (by rw [HMl.out]; omega)]
      simp)
  rw [HMl.out] at hRr ⊢
  have C2 := hide (lists_l (some ⟨b4, 0, none⟩) n n M (some ⟨B9, 0, none⟩) n n M y9 (HR4.out.non hk) hRr)
  rw [decide_eq_true rfl] at C2
  replace HK := hide (HK.out.then hk)
  clear hk C1 hRr HR4 hR9
  go_wp2_with fail
  refine C2.out.mono ?_
  rintro e z1 ⟨rfl, hk⟩
  replace HK := hide (HK.out.then hk)
  clear hk C2
  go_wp2_with fail
  go_ret
  exact ⟨rfl, HK.out⟩
theorem one_l (a : Option Addr) (n cap : Nat) (next : List (List Int)) (st : Int) (w : World) (h : Rows w a n next) (hn : n ≤ 25) (ht : total next ≤ 200) :
    Calls Try.prog 33 #[.slice a n cap, .int .i64 st] w fun e w' => e = .returned (.bool true) ∧ Keeps Non w w' := by
  by_cases hc : checkB next = true
  · by_cases hs : 0 ≤ st ∧ st < (n : Int)
    · obtain ⟨s, rfl⟩ := Int.eq_ofNat_of_zero_le hs.1
      exact one_in a n cap next s w h hn ht hc (by omega)
    · exact one_out a n cap next st w h hn ht hc hs
  · exact one_bad a n cap next st w h hn ht hc
end Go.Proofs.Ythpdflpkkiabhaa
