/-
  The walk over layer 34's 'ticks'. No condition.
-/
import Derived.Test.YtbgcglgbaekfeaaV
import Derived.Test.YtbgcglgbaekfeaaT
namespace Go.Proofs.Ytbgcglgbaekfeaa
open Go.RowKit
attribute [local go_sem] onto_cell onto_frozen dnn
theorem clone_row (a : Option Addr) (n cap : Nat) (xs : List Int) (w : World) (h : Ints w a n xs) :
    Calls Try.prog 25 #[.slice a n cap] w fun e w' => ∃ a' c', e = .returned (.slice a' n c') ∧ Ints w' a' n xs ∧ (0 < n → ∃ g, a' = some ⟨g, 0, none⟩ ∧ w.heap.size ≤ g ∧ Own w' g c' n xs) ∧ Keeps Non w w' := by
  refine (clone_any a n cap xs w h).mono ?_
  rintro e w' ⟨v, rfl, ho, hk⟩
  by_cases hn : 0 < n
  · obtain ⟨g, c, rfl, hg, hO⟩ := own_of ho hn
    exact ⟨_, _, rfl, hO.ints h.len h.big, fun _ => ⟨g, rfl, hg, hO⟩, hk⟩
  · obtain ⟨a', c', rfl, hI⟩ := ints_of_owns ho h.big
    exact ⟨a', c', rfl, hI, fun h => absurd h hn, hk⟩
/-- The row may be written. -/
def Wr (w : World) (g n : Nat) : Prop := ∀ i, i < n → (∃ v : Int, w.cell? ⟨g, i, none⟩ = some (.int .i64 v)) ∧ w.frozen? ⟨g, i, none⟩ = false
theorem Own.wr {w : World} {g cap n : Nat} {ys : List Int} (h : Own w g cap n ys) (hl : ys.length = n) : Wr w g n := by
  intro i hi
  have hI := h.ints hl
  obtain ⟨⟨cur, h1, h2, h3⟩, h4⟩ := h
  have e1 : w.cell? ⟨g, i, none⟩ = cur[i]? := by simp [World.cell?, h1]
  have e2 : cur[i]? = (ys.map (Value.int .i64))[i]? := by
    rw [← h3, List.getElem?_take, if_pos hi]
    simp
  exact ⟨⟨ys.getD i 0, by rw [e1, e2, vals_at (by omega)]⟩, by simp [World.frozen?, h1]⟩
theorem Wr.set {w : World} {g n : Nat} (h : Wr w g n) (i : Nat) (v : Int) (hi : i < n) : Wr (w.setCell ⟨g, i, none⟩ (.int .i64 v)) g n := by
  intro j hj
  refine ⟨?_, by rw [World.frozen?_setCell]; exact (h j hj).2⟩
  by_cases e : j = i
  · subst e
    obtain ⟨x, hx⟩ := (h j hj).1
    exact ⟨v, World.cell?_setCell_same' _ _ _ (by rw [hx]; rfl)⟩
  · obtain ⟨x, hx⟩ := (h j hj).1
    exact ⟨x, by rw [World.cell?_setCell_other _ _ _ _ (by intro h; cases h; exact e rfl)]; exact hx⟩
theorem Wr.keeps {S : Nat → Prop} {w w' : World} {g n : Nat} (h : Wr w g n) (k : Keeps S w w') (hg : g < w.heap.size) (hs : ¬ S g) : Wr w' g n := fun i hi => by
  obtain ⟨⟨v, hv⟩, hf⟩ := h i hi
  exact ⟨⟨v, (k.cell (p := ⟨g, i, none⟩) hg hs).trans hv⟩, (k.frozen (p := ⟨g, i, none⟩) hg hs).trans hf⟩
theorem new_at (a : Option Addr) (n cap : Nat) (xs : List Int) (I T : Int) (w : World) (h : Ints w a n xs) (hc : chk xs = 0) (hI : lI xs = I) (hT : lT xs = T) :
    Calls Try.prog 14 #[.slice a n cap] w fun e w' => ∃ b, e = .returned (.tuple #[.pointer (some ⟨b, 0, none⟩), .int .i64 0]) ∧ w.heap.size ≤ b ∧ Tim w' b I T 0 false ∧ Keeps Non w w' := by
  subst hI hT
  exact new_ok a n cap xs w h hc
theorem cell_in {w v : World} {ab ao r : Nat} {t : Int} (h : ab < w.heap.size) (k : Keeps Non w v) (c : w.cell? ⟨ab, ao + r, none⟩ = some (.int .i64 t)) : v.cell? ⟨ab, ao + r, none⟩ = some (.int .i64 t) :=
  (k.cell (p := ⟨ab, ao + r, none⟩) h id).trans c
theorem eq32b (b : Nat) (w : World) : (binOp .eql 32 (.pointer (some ⟨b, 0, none⟩)) (.pointer none)).run Try.prog w = .ok (.bool false) w := by kernel_rfl
theorem eq32n (w : World) : (binOp .eql 32 (.pointer none) (.pointer none)).run Try.prog w = .ok (.bool true) w := by kernel_rfl
set_option maxHeartbeats 4000000 in
set_option maxRecDepth 100000 in
theorem ticks_bad (a : Option Addr) (n cap : Nat) (xs : List Int) (v2 : Value) (q : Int) (w : World) (h : Ints w a n xs) (hc0 : chk xs ≠ 0) :
    Calls Try.prog 22 #[.slice a n cap, v2, .int .i64 q] w fun e w' => e = .returned (.bool true) ∧ Keeps Non w w' := by
  have c1 : (chk xs == 0) = false := by simp [hc0]
  have c2 : (chk xs != 0) = true := by simp [hc0]
  have q32 := eq32n
  have HI := hide h
  have HN := hide (fun a n cap w h => new_bad a n cap xs w h c2)
  have HRC := hide (fun a n cap w h => rcheck_any a n cap xs w h)
  clear h hc0
  generalize chk xs = c at *
  go_enter Try.func22, Try.ntmps22
  go_wp2_with fail
  refine (clone_ints a n cap xs _ HI.out).mono ?_
  rintro e w1 ⟨a', c', rfl, hI, hk⟩
  have HI := hide (HI.out.non hk)
  have HI2 := hide hI
  have HK := hide hk
  clear hk hI
  go_wp2_with fail
  refine (HN.out a' n c' _ HI2.out).mono ?_
  rintro e w2 ⟨rfl, rfl⟩
  go_wp2_with fail
  refine (HRC.out a n cap _ HI.out).mono ?_
  rintro e w3 ⟨rfl, rfl⟩
  go_wp2_with fail
  go_ret
  exact ⟨rfl, HK.out⟩
/-- The state at a round's head. -/
structure Rnd (w wr : World) (b lb : Nat) (a : Option Addr) (n cap : Nat) (xs : List Int) (a2 : Option Addr) (n2 cap2 : Nat) (ys : List Int) (j : Nat) (ac : Option Addr) (nc cc : Nat) (cs : List Int) : Prop where
  keeps : Keeps Non w wr
  blk : Blk wr lb [.slice a n cap, .slice a2 n2 cap2] 22
  zero : j = 0 → ac = a ∧ nc = n ∧ cc = cap ∧ cs = xs
  one : j = 1 → ac = a2 ∧ nc = n2 ∧ cc = cap2 ∧ cs = ys
  tim : j < 2 → chk cs = 0 ∧ Tim wr b (lI cs) (lT cs) 0 false
theorem Rnd.cell {w wr : World} {b lb n cap n2 cap2 j nc cc : Nat} {a a2 ac : Option Addr} {xs ys cs : List Int} (h : Rnd w wr b lb a n cap xs a2 n2 cap2 ys j ac nc cc cs) (hj : j < 2) : wr.cell? ⟨lb, j, none⟩ = some (.slice ac nc cc) := by
  rw [h.blk.cell]
  rcases Nat.lt_succ_iff_lt_or_eq.1 hj with h1 | rfl
  · obtain rfl : j = 0 := by omega
    obtain ⟨rfl, rfl, rfl, rfl⟩ := h.zero rfl
    rfl
  · obtain ⟨rfl, rfl, rfl, rfl⟩ := h.one rfl
    rfl
theorem Rnd.ints {w wr : World} {b lb n cap n2 cap2 j nc cc : Nat} {a a2 ac : Option Addr} {xs ys cs : List Int} (h : Rnd w wr b lb a n cap xs a2 n2 cap2 ys j ac nc cc cs) (hj : j < 2) (hx : Ints w a n xs) (hy : Ints w a2 n2 ys) : Ints w ac nc cs := by
  rcases Nat.lt_succ_iff_lt_or_eq.1 hj with h1 | rfl
  · obtain rfl : j = 0 := by omega
    obtain ⟨rfl, rfl, rfl, rfl⟩ := h.zero rfl
    exact hx
  · obtain ⟨rfl, rfl, rfl, rfl⟩ := h.one rfl
    exact hy
set_option maxHeartbeats 8000000 in
set_option maxRecDepth 100000 in
theorem ticks_ok (a : Option Addr) (n cap : Nat) (xs : List Int) (a2 : Option Addr) (n2 cap2 : Nat) (ys : List Int) (q : Int) (w : World) (h : Ints w a n xs) (h2 : Ints w a2 n2 ys) (hc0 : chk xs = 0) (hq0 : 0 ≤ q) (hq1 : q ≤ 60) :
    Calls Try.prog 22 #[.slice a n cap, .slice a2 n2 cap2, .int .i64 q] w fun e w' => e = .returned (.bool true) ∧ Keeps Non w w' := by
  have q32 := eq32b
  have HX := hide h
  have HY := hide h2
  have hc := hide hc0
  have hbig := h.big
  clear h h2 hc0
  go_enter Try.func22, Try.ntmps22
  go_wp2_with fail
  refine (clone_row a n cap xs _ HX.out).mono ?_
  rintro e w1 ⟨a', c', rfl, hI, hW, hk⟩
  have HI2 := hide hI
  have HW := hide hW
  have HK := hide hk
  clear hk hI hW
  go_wp2_with fail
  refine (new_at a' n c' xs _ _ _ HI2.out hc.out rfl rfl).mono ?_
  rintro e w2 ⟨b, rfl, hb, hT, hk⟩
  have HK1 := HK
  have HB := hide (Nat.le_trans HK.out.size hb)
  have HB1 := hide hb
  have HK := hide (HK.out.then hk)
  have HW := hide (show 0 < n → ∃ g, a' = some ⟨g, 0, none⟩ ∧ w.heap.size ≤ g ∧ g < w1.heap.size ∧ g < w2.heap.size ∧ Wr w2 g n from fun hn => by
    obtain ⟨g, e1, e2, hO⟩ := HW.out hn
    exact ⟨g, e1, e2, hO.lt, Nat.lt_of_lt_of_le hO.lt hk.size, (hO.wr HI2.out.len).keeps hk hO.lt id⟩)
  have HT := hide hT
  clear hk hT hb
  go_wp2_with fail
  refine (rcheck_ok a n cap xs _ (HX.out.non HK.out) hc.out).mono ?_
  rintro e w3 ⟨rfl, rfl⟩
  go_wp2_with fail
  go_loopw [50] (fun i wr => ∃ k : Nat, k ≤ n ∧ i = .int .i64 k ∧ Hid (Keeps Non w wr) ∧ Hid (Tim wr b (lI xs) (lT xs) 0 false) ∧ Hid (0 < n → ∃ g, a' = some ⟨g, 0, none⟩ ∧ w.heap.size ≤ g ∧ g < w1.heap.size ∧ g < wr.heap.size ∧ Wr wr g n)) (fun i _ => n - (intOf i).toNat)
  case atStart => exact ⟨0, Nat.zero_le _, rfl, HK.out, HT.out, HW.out⟩
  case round =>
    obtain ⟨k, hk, rfl, hK, hT, hW⟩ := hrel
    by_cases hlt : k < n
    · obtain ⟨g, rfl, g1, g2, g3, hWr⟩ := hW.out (by omega)
      have gb : g ≠ b := by have := HB1.out; omega
      obtain ⟨⟨v, hcv⟩, hf⟩ := hWr k hlt
      have HS := hide (hWr.set k 1 hlt)
      have y0 : (0 : Int) ≤ (k : Int) := by omega
      have y1 : (k : Int) < (n : Int) := by omega
      have HWr := hide hWr
      clear hWr
      go_wp2
      go_roundw
      case rel => exact ⟨k + 1, by omega, by go_num, hK.out.set (.inr g1) _, hT.out.other (p := ⟨g, k, none⟩) (by simpa using gb.symm) _, fun _ => ⟨g, rfl, g1, g2, by simpa using g3, HS.out⟩⟩
      case measure => simp [intOf]; omega
    · clear hW
      go_wp2_with fail
      have HLB0 := hide (Blk.new wr [.slice a n cap, .slice a2 n2 cap2] 22)
      have HKL := hide (hK.out.alloc (.cells #[.slice a n cap, .slice a2 n2 cap2] 22))
      have HTL := hide (Blk.alloc hT.out (.cells #[.slice a n cap, .slice a2 n2 cap2] 22))
      have hlbW := hide hK.out.size
      have hlbb := hide (Blk.lt hT.out)
      generalize hLb : wr.heap.size = lb at *
      have HLb := hide hLb
      clear hLb hT hK HT HK
      go_loopw [61] (fun i wr2 => ∃ (j : Nat) (ac : Option Addr) (nc cc : Nat) (cs : List Int), i = .int .i64 j ∧ j ≤ 2 ∧ Hid (Rnd w wr2 b lb a n cap xs a2 n2 cap2 ys j ac nc cc cs)) (fun i _ => 2 - (intOf i).toNat)
      case atStart => exact ⟨0, a, n, cap, xs, rfl, by omega, HKL.out, HLB0.out, fun _ => ⟨rfl, rfl, rfl, rfl⟩, (by intro h; cases h), fun _ => ⟨hc.out, HTL.out⟩⟩
      case round =>
        obtain ⟨j, ac, nc, cc, cs, rfl, hj2, hR⟩ := hrel
        by_cases hj : j < 2
        · have hKs := hide hR.out.keeps
          have hLs := hide hR.out.blk
          obtain ⟨hcc0, hTs0⟩ := hR.out.tim hj
          have hTs := hide hTs0
          have hcc := hide hcc0
          have hce := hide (hR.out.cell hj)
          have hCI := hide (hR.out.ints hj HX.out HY.out)
          have hce2 := hce.out
          have lbs := Blk.lt hLs.out
          have hlen := hCI.out.len
          have hbigc := hCI.out.big
          clear hcc0 hTs0
          by_cases hcy0 : chk ys = 0
          · have hcy := hide hcy0
            clear hcy0
            by_cases hx0 : cs = []
            · have hI0 : lI cs < 0 := lI_nil hx0
              have hx := hide hx0
              go_wp2_with fail
              refine (rfirst_nil ac nc cc cs _ (hCI.out.non hKs.out) hcc.out hx.out).mono ?_
              rintro e w5 ⟨rfl, rfl⟩
              clear hx0
              generalize lI cs = I at *
              generalize lT cs = T at *
              go_wp2_with fail
              go_loopw [68, 15, 16] (fun i atv fv wr => ∃ k : Int, 0 ≤ k ∧ k ≤ q ∧ i = .int .i64 k ∧ atv = .int .i64 k ∧ fv = .bool false ∧ Hid (Tim wr b I T k false) ∧ Hid (Keeps Non w wr) ∧ Hid (Blk wr lb [.slice a n cap, .slice a2 n2 cap2] 22)) (fun i _ _ _ => q.toNat - (intOf i).toNat)
              case atStart => exact ⟨0, by omega, by omega, rfl, rfl, rfl, hTs.out, hKs.out, hLs.out⟩
              case round =>
                obtain ⟨k, hk0, hkq, rfl, rfl, rfl, hTA, hK, hL⟩ := hrel
                by_cases hlt : k < q
                · go_wp2_with fail
                  refine (tick_none b _ _ k _ hTA.out hI0 hk0 (by omega)).mono ?_
                  rintro e vA ⟨rfl, hk, hT⟩
                  have hT1 := hide hT
                  have hL1 := hide (hL.out.keeps hk (by have := hlbb.out; show ¬ lb = b; omega))
                  have hK1 := hide (hK.out.trans hk (by intro i hi e; have := HB.out; omega))
                  clear hk hT
                  go_wp2_with fail
                  refine (left_none b _ _ _ _ false hT1.out (.inl hI0)).mono ?_
                  rintro e vC ⟨rfl, hk⟩
                  have hTA3 := hide (Blk.keeps hT1.out hk id)
                  have hL3 := hide (Blk.keeps hL1.out hk id)
                  have hK3 := hide (hK1.out.then hk)
                  clear hk
                  go_wp2_with fail
                  refine (at_any b _ _ _ _ _ hTA3.out).mono ?_
                  rintro e vE ⟨rfl, rfl⟩
                  go_wp2_with fail
                  refine (fired_any b _ _ _ _ _ hTA3.out).mono ?_
                  rintro e vG ⟨rfl, rfl⟩
                  go_wp2
                  go_roundw
                  case rel => exact ⟨k + 1, by omega, by omega, by go_num, by go_num, rfl, hTA3.out, hK3.out, hL3.out⟩
                  case measure => simp [intOf]; omega
                · have hkq2 : k = q := by omega
                  subst hkq2
                  go_wp2_with fail
                  refine (enter_ok b _ _ _ _ a2 n2 cap2 ys _ hTA.out (HY.out.non hK.out) hcy.out).mono ?_
                  rintro e v1 ⟨rfl, hk, hT⟩
                  have hTE := hide hT
                  have hKE := hide (hK.out.trans hk (by intro i hi e; have := HB.out; omega))
                  have hLE := hide (hL.out.keeps hk (by have := hlbb.out; show ¬ lb = b; omega))
                  clear hk hT
                  go_wp2_with fail
                  refine (rcheck_ok a2 n2 cap2 ys _ (HY.out.non hKE.out) hcy.out).mono ?_
                  rintro e v2 ⟨rfl, rfl⟩
                  go_wp2_with fail
                  refine (at_any b _ _ _ _ _ hTE.out).mono ?_
                  rintro e v3 ⟨rfl, rfl⟩
                  go_wp2_with fail
                  refine (fired_any b _ _ _ _ _ hTE.out).mono ?_
                  rintro e v4 ⟨rfl, rfl⟩
                  go_wp2
                  go_roundw
                  case rel => exact ⟨j + 1, a2, n2, cap2, ys, by go_num, by omega, hKE.out, hLE.out, (by intro h; cases h), fun _ => ⟨rfl, rfl, rfl, rfl⟩, fun _ => ⟨hcy.out, hTE.out⟩⟩
                  case measure => simp [intOf]; omega
            · have hIlt := ofI_lt hx0
              obtain ⟨t1, t2⟩ := ofT_bd hcc.out hx0
              have hTI : Hid (cs.getD (ofI cs) 0 = ofT cs) := rfl
              rw [show lI cs = (ofI cs : Int) by simp [lI, hx0], show lT cs = ofT cs by simp [lT, hx0]] at hTs
              have HRF := hide (rfirst_some ac nc cc cs _ (hCI.out.non hKs.out) hcc.out hx0)
              clear hx0
              generalize ofT cs = t at *
              generalize ofI cs = r at *
              have z0 : (0 : Int) ≤ (r : Int) := by omega
              have z1 : (r : Int) < (nc : Int) := by omega
              have z7 : ¬ (r : Int) < 0 := by omega
              obtain ⟨ab, ao, rfl, hab0, hcl⟩ := hCI.out.at (by omega)
              have crw := hcl r (by omega)
              rw [hTI.out] at crw
              have hKab := hide hab0
              clear hcl hab0
              go_wp2_with fail
              refine HRF.out.mono ?_
              rintro e w5 ⟨rfl, rfl⟩
              go_wp2_with fail
              go_loopw [68, 15, 16] (fun i atv fv wr => ∃ k p : Int, ∃ fb : Bool, 0 ≤ k ∧ k ≤ q ∧ i = .int .i64 k ∧ atv = .int .i64 p ∧ fv = .bool fb ∧ 0 ≤ p ∧ p ≤ k ∧ (fb = false → p < t) ∧ Hid (Tim wr b r t p fb) ∧ Hid (Keeps Non w wr) ∧ Hid (Blk wr lb [.slice a n cap, .slice a2 n2 cap2] 22)) (fun i _ _ _ => q.toNat - (intOf i).toNat)
              case atStart => exact ⟨0, 0, false, by omega, by omega, rfl, rfl, rfl, by omega, by omega, (by intro _; omega), hTs.out, hKs.out, hLs.out⟩
              case round =>
                obtain ⟨k, p, fb, hk0, hkq, rfl, rfl, rfl, hp0, hpk, hpt, hTA, hK, hL⟩ := hrel
                by_cases hlt : k < q
                · cases fb with
                  | true =>
                    clear hpt
                    go_wp2_with fail
                    refine (tick_over b _ _ p _ hTA.out).mono ?_
                    rintro e vA ⟨rfl, rfl⟩
                    have hT1 := hTA
                    have hL1 := hL
                    have hK1 := hK
                    go_wp2_with fail
                    refine (left_none b _ _ _ _ true hT1.out (.inr rfl)).mono ?_
                    rintro e vC ⟨rfl, hk⟩
                    have hTA3 := hide (Blk.keeps hT1.out hk id)
                    have hL3 := hide (Blk.keeps hL1.out hk id)
                    have hK3 := hide (hK1.out.then hk)
                    clear hk
                    go_wp2_with fail
                    refine (at_any b _ _ _ _ _ hTA3.out).mono ?_
                    rintro e vE ⟨rfl, rfl⟩
                    go_wp2_with fail
                    refine (fired_any b _ _ _ _ _ hTA3.out).mono ?_
                    rintro e vG ⟨rfl, rfl⟩
                    go_wp2
                    go_roundw
                    case rel => exact ⟨k + 1, p, true, by omega, by omega, by go_num, by go_num, rfl, by omega, by omega, (by intro h; cases h), hTA3.out, hK3.out, hL3.out⟩
                    case measure => simp [intOf]; omega
                  | false =>
                    have hpt := hpt rfl
                    by_cases hf0 : p + 1 = t
                    · have hf := hide hf0
                      clear hf0
                      go_wp2_with fail
                      refine (tick_fires b _ t p _ hTA.out z0 hf.out hp0 (by omega)).mono ?_
                      rintro e vA ⟨rfl, hk, hT⟩
                      have hT1 := hide (show Tim vA b r t (p + 1) true by rw [hf.out]; exact hT)
                      have hL1 := hide (hL.out.keeps hk (by have := hlbb.out; show ¬ lb = b; omega))
                      have hK1 := hide (hK.out.trans hk (by intro i hi e; have := HB.out; omega))
                      clear hk hT
                      have crA := cell_in hKab.out hK1.out crw
                      have f1 : (p + 1 == t) = true := by simp [hf.out]
                      have f2 : ((r : Int) != (r : Int)) = false := by simp
                      go_wp2_with fail
                      refine (left_none b _ _ _ _ true hT1.out (.inr rfl)).mono ?_
                      rintro e vC ⟨rfl, hk⟩
                      have hTA3 := hide (Blk.keeps hT1.out hk id)
                      have hL3 := hide (Blk.keeps hL1.out hk id)
                      have hK3 := hide (hK1.out.then hk)
                      clear hk
                      go_wp2_with fail
                      refine (at_any b _ _ _ _ _ hTA3.out).mono ?_
                      rintro e vE ⟨rfl, rfl⟩
                      go_wp2_with fail
                      refine (fired_any b _ _ _ _ _ hTA3.out).mono ?_
                      rintro e vG ⟨rfl, rfl⟩
                      go_wp2
                      go_roundw
                      case rel => exact ⟨k + 1, p + 1, true, by omega, by omega, by go_num, by go_num, rfl, by omega, by omega, (by intro h; cases h), hTA3.out, hK3.out, hL3.out⟩
                      case measure => simp [intOf]; omega
                    · have hf := hide hf0
                      have f1 : (p + 1 == t) = false := by simp [hf0]
                      clear hf0
                      have hpt2 : p + 1 < t := by have := hf.out; omega
                      go_wp2_with fail
                      refine (tick_not b _ t p _ hTA.out z0 hf.out hp0 (by omega)).mono ?_
                      rintro e vA ⟨rfl, hk, hT⟩
                      have hT1 := hide hT
                      have hL1 := hide (hL.out.keeps hk (by have := hlbb.out; show ¬ lb = b; omega))
                      have hK1 := hide (hK.out.trans hk (by intro i hi e; have := HB.out; omega))
                      clear hk hT
                      have crA := cell_in hKab.out hK1.out crw
                      go_wp2_with fail
                      refine (left_some b _ t (p + 1) _ hT1.out z0 (by omega) (by omega) (by omega)).mono ?_
                      rintro e vC ⟨rfl, hk⟩
                      have crC := cell_in hKab.out (hK1.out.then hk) crw
                      have hTA3 := hide (Blk.keeps hT1.out hk id)
                      have hL3 := hide (Blk.keeps hL1.out hk id)
                      have hK3 := hide (hK1.out.then hk)
                      clear hk
                      go_wp2_with fail
                      refine (at_any b _ _ _ _ _ hTA3.out).mono ?_
                      rintro e vE ⟨rfl, rfl⟩
                      go_wp2_with fail
                      refine (fired_any b _ _ _ _ _ hTA3.out).mono ?_
                      rintro e vG ⟨rfl, rfl⟩
                      go_wp2
                      go_roundw
                      case rel => exact ⟨k + 1, p + 1, false, by omega, by omega, by go_num, by go_num, rfl, by omega, by omega, (by intro _; omega), hTA3.out, hK3.out, hL3.out⟩
                      case measure => simp [intOf]; omega
                · have hkq2 : k = q := by omega
                  subst hkq2
                  clear hpt
                  go_wp2_with fail
                  refine (enter_ok b _ _ _ _ a2 n2 cap2 ys _ hTA.out (HY.out.non hK.out) hcy.out).mono ?_
                  rintro e v1 ⟨rfl, hk, hT⟩
                  have hTE := hide hT
                  have hKE := hide (hK.out.trans hk (by intro i hi e; have := HB.out; omega))
                  have hLE := hide (hL.out.keeps hk (by have := hlbb.out; show ¬ lb = b; omega))
                  clear hk hT
                  go_wp2_with fail
                  refine (rcheck_ok a2 n2 cap2 ys _ (HY.out.non hKE.out) hcy.out).mono ?_
                  rintro e v2 ⟨rfl, rfl⟩
                  go_wp2_with fail
                  refine (at_any b _ _ _ _ _ hTE.out).mono ?_
                  rintro e v3 ⟨rfl, rfl⟩
                  go_wp2_with fail
                  refine (fired_any b _ _ _ _ _ hTE.out).mono ?_
                  rintro e v4 ⟨rfl, rfl⟩
                  go_wp2
                  go_roundw
                  case rel => exact ⟨j + 1, a2, n2, cap2, ys, by go_num, by omega, hKE.out, hLE.out, (by intro h; cases h), fun _ => ⟨rfl, rfl, rfl, rfl⟩, fun _ => ⟨hcy.out, hTE.out⟩⟩
                  case measure => simp [intOf]; omega
          · have hcy := hide hcy0
            have hcy2 : (chk ys != 0) = true := by simp [hcy0]
            have hcy3 : (chk ys == chk ys) = true := by simp
            clear hcy0
            by_cases hx0 : cs = []
            · have hI0 : lI cs < 0 := lI_nil hx0
              have hx := hide hx0
              go_wp2_with fail
              refine (rfirst_nil ac nc cc cs _ (hCI.out.non hKs.out) hcc.out hx.out).mono ?_
              rintro e w5 ⟨rfl, rfl⟩
              clear hx0
              generalize lI cs = I at *
              generalize lT cs = T at *
              go_wp2_with fail
              go_loopw [68, 15, 16] (fun i atv fv wr => ∃ k : Int, 0 ≤ k ∧ k ≤ q ∧ i = .int .i64 k ∧ atv = .int .i64 k ∧ fv = .bool false ∧ Hid (Tim wr b I T k false) ∧ Hid (Keeps Non w wr) ∧ Hid (Blk wr lb [.slice a n cap, .slice a2 n2 cap2] 22)) (fun i _ _ _ => q.toNat - (intOf i).toNat)
              case atStart => exact ⟨0, by omega, by omega, rfl, rfl, rfl, hTs.out, hKs.out, hLs.out⟩
              case round =>
                obtain ⟨k, hk0, hkq, rfl, rfl, rfl, hTA, hK, hL⟩ := hrel
                by_cases hlt : k < q
                · go_wp2_with fail
                  refine (tick_none b _ _ k _ hTA.out hI0 hk0 (by omega)).mono ?_
                  rintro e vA ⟨rfl, hk, hT⟩
                  have hT1 := hide hT
                  have hL1 := hide (hL.out.keeps hk (by have := hlbb.out; show ¬ lb = b; omega))
                  have hK1 := hide (hK.out.trans hk (by intro i hi e; have := HB.out; omega))
                  clear hk hT
                  go_wp2_with fail
                  refine (left_none b _ _ _ _ false hT1.out (.inl hI0)).mono ?_
                  rintro e vC ⟨rfl, hk⟩
                  have hTA3 := hide (Blk.keeps hT1.out hk id)
                  have hL3 := hide (Blk.keeps hL1.out hk id)
                  have hK3 := hide (hK1.out.then hk)
                  clear hk
                  go_wp2_with fail
                  refine (at_any b _ _ _ _ _ hTA3.out).mono ?_
                  rintro e vE ⟨rfl, rfl⟩
                  go_wp2_with fail
                  refine (fired_any b _ _ _ _ _ hTA3.out).mono ?_
                  rintro e vG ⟨rfl, rfl⟩
                  go_wp2
                  go_roundw
                  case rel => exact ⟨k + 1, by omega, by omega, by go_num, by go_num, rfl, hTA3.out, hK3.out, hL3.out⟩
                  case measure => simp [intOf]; omega
                · have hkq2 : k = q := by omega
                  subst hkq2
                  go_wp2_with fail
                  refine (enter_bad b _ _ _ _ a2 n2 cap2 ys _ hTA.out (HY.out.non hK.out) hcy2).mono ?_
                  rintro e v1 ⟨rfl, rfl⟩
                  go_wp2_with fail
                  refine (rcheck_any a2 n2 cap2 ys _ (HY.out.non hK.out)).mono ?_
                  rintro e v2 ⟨rfl, rfl⟩
                  go_wp2_with fail
                  refine (at_any b _ _ _ _ _ hTA.out).mono ?_
                  rintro e v3 ⟨rfl, rfl⟩
                  go_wp2_with fail
                  refine (fired_any b _ _ _ _ _ hTA.out).mono ?_
                  rintro e v4 ⟨rfl, rfl⟩
                  go_wp2
                  go_ret
                  exact ⟨rfl, hK.out⟩
            · have hIlt := ofI_lt hx0
              obtain ⟨t1, t2⟩ := ofT_bd hcc.out hx0
              have hTI : Hid (cs.getD (ofI cs) 0 = ofT cs) := rfl
              rw [show lI cs = (ofI cs : Int) by simp [lI, hx0], show lT cs = ofT cs by simp [lT, hx0]] at hTs
              have HRF := hide (rfirst_some ac nc cc cs _ (hCI.out.non hKs.out) hcc.out hx0)
              clear hx0
              generalize ofT cs = t at *
              generalize ofI cs = r at *
              have z0 : (0 : Int) ≤ (r : Int) := by omega
              have z1 : (r : Int) < (nc : Int) := by omega
              have z7 : ¬ (r : Int) < 0 := by omega
              obtain ⟨ab, ao, rfl, hab0, hcl⟩ := hCI.out.at (by omega)
              have crw := hcl r (by omega)
              rw [hTI.out] at crw
              have hKab := hide hab0
              clear hcl hab0
              go_wp2_with fail
              refine HRF.out.mono ?_
              rintro e w5 ⟨rfl, rfl⟩
              go_wp2_with fail
              go_loopw [68, 15, 16] (fun i atv fv wr => ∃ k p : Int, ∃ fb : Bool, 0 ≤ k ∧ k ≤ q ∧ i = .int .i64 k ∧ atv = .int .i64 p ∧ fv = .bool fb ∧ 0 ≤ p ∧ p ≤ k ∧ (fb = false → p < t) ∧ Hid (Tim wr b r t p fb) ∧ Hid (Keeps Non w wr) ∧ Hid (Blk wr lb [.slice a n cap, .slice a2 n2 cap2] 22)) (fun i _ _ _ => q.toNat - (intOf i).toNat)
              case atStart => exact ⟨0, 0, false, by omega, by omega, rfl, rfl, rfl, by omega, by omega, (by intro _; omega), hTs.out, hKs.out, hLs.out⟩
              case round =>
                obtain ⟨k, p, fb, hk0, hkq, rfl, rfl, rfl, hp0, hpk, hpt, hTA, hK, hL⟩ := hrel
                by_cases hlt : k < q
                · cases fb with
                  | true =>
                    clear hpt
                    go_wp2_with fail
                    refine (tick_over b _ _ p _ hTA.out).mono ?_
                    rintro e vA ⟨rfl, rfl⟩
                    have hT1 := hTA
                    have hL1 := hL
                    have hK1 := hK
                    go_wp2_with fail
                    refine (left_none b _ _ _ _ true hT1.out (.inr rfl)).mono ?_
                    rintro e vC ⟨rfl, hk⟩
                    have hTA3 := hide (Blk.keeps hT1.out hk id)
                    have hL3 := hide (Blk.keeps hL1.out hk id)
                    have hK3 := hide (hK1.out.then hk)
                    clear hk
                    go_wp2_with fail
                    refine (at_any b _ _ _ _ _ hTA3.out).mono ?_
                    rintro e vE ⟨rfl, rfl⟩
                    go_wp2_with fail
                    refine (fired_any b _ _ _ _ _ hTA3.out).mono ?_
                    rintro e vG ⟨rfl, rfl⟩
                    go_wp2
                    go_roundw
                    case rel => exact ⟨k + 1, p, true, by omega, by omega, by go_num, by go_num, rfl, by omega, by omega, (by intro h; cases h), hTA3.out, hK3.out, hL3.out⟩
                    case measure => simp [intOf]; omega
                  | false =>
                    have hpt := hpt rfl
                    by_cases hf0 : p + 1 = t
                    · have hf := hide hf0
                      clear hf0
                      go_wp2_with fail
                      refine (tick_fires b _ t p _ hTA.out z0 hf.out hp0 (by omega)).mono ?_
                      rintro e vA ⟨rfl, hk, hT⟩
                      have hT1 := hide (show Tim vA b r t (p + 1) true by rw [hf.out]; exact hT)
                      have hL1 := hide (hL.out.keeps hk (by have := hlbb.out; show ¬ lb = b; omega))
                      have hK1 := hide (hK.out.trans hk (by intro i hi e; have := HB.out; omega))
                      clear hk hT
                      have crA := cell_in hKab.out hK1.out crw
                      have f1 : (p + 1 == t) = true := by simp [hf.out]
                      have f2 : ((r : Int) != (r : Int)) = false := by simp
                      go_wp2_with fail
                      refine (left_none b _ _ _ _ true hT1.out (.inr rfl)).mono ?_
                      rintro e vC ⟨rfl, hk⟩
                      have hTA3 := hide (Blk.keeps hT1.out hk id)
                      have hL3 := hide (Blk.keeps hL1.out hk id)
                      have hK3 := hide (hK1.out.then hk)
                      clear hk
                      go_wp2_with fail
                      refine (at_any b _ _ _ _ _ hTA3.out).mono ?_
                      rintro e vE ⟨rfl, rfl⟩
                      go_wp2_with fail
                      refine (fired_any b _ _ _ _ _ hTA3.out).mono ?_
                      rintro e vG ⟨rfl, rfl⟩
                      go_wp2
                      go_roundw
                      case rel => exact ⟨k + 1, p + 1, true, by omega, by omega, by go_num, by go_num, rfl, by omega, by omega, (by intro h; cases h), hTA3.out, hK3.out, hL3.out⟩
                      case measure => simp [intOf]; omega
                    · have hf := hide hf0
                      have f1 : (p + 1 == t) = false := by simp [hf0]
                      clear hf0
                      have hpt2 : p + 1 < t := by have := hf.out; omega
                      go_wp2_with fail
                      refine (tick_not b _ t p _ hTA.out z0 hf.out hp0 (by omega)).mono ?_
                      rintro e vA ⟨rfl, hk, hT⟩
                      have hT1 := hide hT
                      have hL1 := hide (hL.out.keeps hk (by have := hlbb.out; show ¬ lb = b; omega))
                      have hK1 := hide (hK.out.trans hk (by intro i hi e; have := HB.out; omega))
                      clear hk hT
                      have crA := cell_in hKab.out hK1.out crw
                      go_wp2_with fail
                      refine (left_some b _ t (p + 1) _ hT1.out z0 (by omega) (by omega) (by omega)).mono ?_
                      rintro e vC ⟨rfl, hk⟩
                      have crC := cell_in hKab.out (hK1.out.then hk) crw
                      have hTA3 := hide (Blk.keeps hT1.out hk id)
                      have hL3 := hide (Blk.keeps hL1.out hk id)
                      have hK3 := hide (hK1.out.then hk)
                      clear hk
                      go_wp2_with fail
                      refine (at_any b _ _ _ _ _ hTA3.out).mono ?_
                      rintro e vE ⟨rfl, rfl⟩
                      go_wp2_with fail
                      refine (fired_any b _ _ _ _ _ hTA3.out).mono ?_
                      rintro e vG ⟨rfl, rfl⟩
                      go_wp2
                      go_roundw
                      case rel => exact ⟨k + 1, p + 1, false, by omega, by omega, by go_num, by go_num, rfl, by omega, by omega, (by intro _; omega), hTA3.out, hK3.out, hL3.out⟩
                      case measure => simp [intOf]; omega
                · have hkq2 : k = q := by omega
                  subst hkq2
                  clear hpt
                  go_wp2_with fail
                  refine (enter_bad b _ _ _ _ a2 n2 cap2 ys _ hTA.out (HY.out.non hK.out) hcy2).mono ?_
                  rintro e v1 ⟨rfl, rfl⟩
                  go_wp2_with fail
                  refine (rcheck_any a2 n2 cap2 ys _ (HY.out.non hK.out)).mono ?_
                  rintro e v2 ⟨rfl, rfl⟩
                  go_wp2_with fail
                  refine (at_any b _ _ _ _ _ hTA.out).mono ?_
                  rintro e v3 ⟨rfl, rfl⟩
                  go_wp2_with fail
                  refine (fired_any b _ _ _ _ _ hTA.out).mono ?_
                  rintro e v4 ⟨rfl, rfl⟩
                  go_wp2
                  go_ret
                  exact ⟨rfl, hK.out⟩
        · go_wp2_with fail
          go_ret
          exact ⟨rfl, hR.out.keeps⟩

end Go.Proofs.Ytbgcglgbaekfeaa
