/-
  Walks over layer 6: IndexFunc, ContainsFunc, wrong. No condition.
-/
import Derived.Test.YtkcbahfmdokalaaJ
import Derived.Laws.EntriesVeiled
namespace Go.Proofs.Ytkcbahfmdokalaa
open Go.RowKit
attribute [local go_sem] onto_cell onto_frozen
set_option linter.unusedVariables false
theorem any_take_succ {α : Type} (f : α → Bool) (xs : List α) (k : Nat) (d : α) (h : k < xs.length) : (xs.take (k + 1)).any f = ((xs.take k).any f || f (xs.getD k d)) := by
  rw [List.take_succ_eq_append_getElem h, List.any_append, getD_numL h]
  simp
theorem any_of_at {α : Type} (f : α → Bool) (xs : List α) (k : Nat) (d : α) (h : k < xs.length) (hf : f (xs.getD k d) = true) : xs.any f = true := by
  rw [List.any_eq_true]
  exact ⟨_, getD_mem h, hf⟩
/-- A function with a body of its own. -/
def Ent (F : FuncId) : Prop := ∀ args w, (callFunc F args).run Try.prog w = .ok (.enter F args) w
/-- What IndexFunc says: where, or -1. -/
def IdxP (t : Bool) (w : World) (e : Ending) (w' : World) : Prop := ∃ r : Int, e = .returned (.int .i64 r) ∧ (t = true → 0 ≤ r) ∧ (t = false → r = -1) ∧ Keeps Non w w'
set_option maxHeartbeats 1000000 in
theorem index_int (a : Option Addr) (n cap : Nat) (xs : List Int) (F : FuncId) (C : Value) (f : Int → Bool) (w : World) (he : Ent F) (h : Ints w a n xs)
    (hF : ∀ x w', Keeps Non w w' → Calls Try.prog F #[.int .i64 x, C] w' fun e w2 => e = .returned (.bool (f x)) ∧ Keeps Non w' w2) :
    Calls Try.prog 73 #[.slice a n cap, .func (.func F) #[] #[C]] w (IdxP (xs.any f) w) := by
  have hn := h.big
  have HX := hide h
  have HF := hide hF
  have HEn := hide he
  clear h hF he
  go_enter Try.func73, Try.ntmps73
  go_wp2_with fail
  obtain ⟨W, hW, hWk⟩ : ∃ W, w = W ∧ Keeps Non w W := ⟨w, rfl, Keeps.refl _ _⟩
  go_loopw [8] (fun i wr => ∃ k : Nat, k ≤ n ∧ i = .int .i64 k ∧ Hid (Keeps Non w wr) ∧ Hid ((xs.take k).any f = false)) (fun i _ => n - (intOf i).toNat)
  case atStart => exact ⟨0, Nat.zero_le _, rfl, Keeps.refl _ _, rfl⟩
  case round =>
    clear hW hWk
    obtain ⟨k, hk, rfl, HK, HA⟩ := hrel
    have hxl : xs.length = n := HX.out.len
    by_cases hlt : k < n
    · obtain ⟨b1, o1, rfl, hb1, hc1⟩ := (HX.out.non HK.out).at (by omega)
      have ck := hc1 k hlt
      have hts := any_take_succ f xs k 0 (by omega)
      have hat := any_of_at f xs k 0 (by omega)
      obtain ⟨x, hx⟩ : ∃ x, xs.getD k 0 = x := ⟨_, rfl⟩
      rw [hx] at ck hts hat
      rw [HA.out] at hts
      have HC := hide (HF.out x wr HK.out)
      obtain ⟨v, hv⟩ : ∃ v, f x = v := ⟨_, rfl⟩
      rw [hv] at HC hts hat
      have z0 : (0 : Int) ≤ (k : Int) := by omega
      have z1 : (k : Int) < (n : Int) := by omega
      clear hc1 hx hv hxl
      cases v with
      | true =>
        have HT := hide (hat rfl)
        clear hat hts
        go_wp2_with fail
        rw [HEn.out]
        refine HC.out.mono ?_
        rintro e w2 ⟨rfl, hk2⟩
        have HK2 := hide (HK.out.then hk2)
        clear hk2
        go_wp2_with fail
        try rw [Exit.noGoto_ret]
        go_ret
        exact ⟨_, rfl, fun _ => by omega, (fun h => by rw [HT.out] at h; cases h), HK2.out⟩
      | false =>
        have HT : Hid ((xs.take (k + 1)).any f = false) := hts
        clear hat hts
        go_wp2_with fail
        rw [HEn.out]
        refine HC.out.mono ?_
        rintro e w2 ⟨rfl, hk2⟩
        have HK2 := hide (HK.out.then hk2)
        clear hk2
        go_wp2_with fail
        go_roundw
        case rel => exact ⟨k + 1, by omega, by go_num, HK2.out, HT.out⟩
        case measure => simp [intOf]; omega
    · have hkn : k = n := by omega
      subst hkn
      have HT : Hid (xs.any f = false) := by
        show _ = _
        rw [← HA.out, List.take_of_length_le (by omega)]
      have y9 : ¬ (k : Int) < (k : Int) := by omega
      clear hxl
      go_wp2_with fail
      try rw [Exit.noGoto_ret]
      go_ret
      exact ⟨_, rfl, (fun h => by rw [HT.out] at h; cases h), fun _ => rfl, HK.out⟩
theorem contains_int (a : Option Addr) (n cap : Nat) (xs : List Int) (F : FuncId) (C : Value) (f : Int → Bool) (w : World) (he : Ent F) (h : Ints w a n xs)
    (hF : ∀ x w', Keeps Non w w' → Calls Try.prog F #[.int .i64 x, C] w' fun e w2 => e = .returned (.bool (f x)) ∧ Keeps Non w' w2) :
    Calls Try.prog 70 #[.slice a n cap, .func (.func F) #[] #[C]] w fun e w' => e = .returned (.bool (xs.any f)) ∧ Keeps Non w w' := by
  have HC := hide (index_int a n cap xs F C f w he h hF)
  obtain ⟨v, hv⟩ : ∃ v, xs.any f = v := ⟨_, rfl⟩
  rw [hv] at HC ⊢
  clear h hF hv
  go_enter Try.func70, Try.ntmps70
  go_wp2_with fail
  refine HC.out.mono ?_
  rintro e w2 ⟨r, rfl, h1, h2, hk⟩
  have HK := hide hk
  clear hk
  cases v with
  | true =>
    have y0 : 0 ≤ r := h1 rfl
    clear h1 h2
    go_wp2_with fail
    go_ret
    exact ⟨ret_bool (by simp), HK.out⟩
  | false =>
    obtain rfl : r = -1 := h2 rfl
    clear h1 h2
    go_wp2_with fail
    go_ret
    exact ⟨rfl, HK.out⟩
/-- Slices that lie in a row, each with what is known of it. -/
structure RowsG (R : World → Option Addr → List Int → Prop) (w : World) (a : Option Addr) (n : Nat) (xss : List (List Int)) : Prop where
  len : xss.length = n
  big : n ≤ 9223372036854775807
  cell : n = 0 ∨ ∃ b off, a = some ⟨b, off, none⟩ ∧ b < w.heap.size ∧ ∀ i, i < n → ∃ ai ci, w.cell? ⟨b, off + i, none⟩ = some (.slice ai (xss.getD i []).length ci) ∧ R w ai (xss.getD i [])
def RI (w : World) (a : Option Addr) (l : List Int) : Prop := Ints w a l.length l
theorem rows_g {w : World} {a : Option Addr} {n : Nat} {xss : List (List Int)} (h : Rows w a n xss) : RowsG RI w a n xss :=
  ⟨h.len, by have := h.big; omega, h.cell⟩
set_option maxHeartbeats 1000000 in
theorem index_rows (R : World → Option Addr → List Int → Prop) (a : Option Addr) (n cap : Nat) (xss : List (List Int)) (F : FuncId) (Cs : Array Value) (f : List Int → Bool) (w : World) (he : Ent F) (h : RowsG R w a n xss)
    (hF : ∀ l ai ci w', R w ai l → Keeps Non w w' → Calls Try.prog F (#[.slice ai l.length ci] ++ Cs) w' fun e w2 => e = .returned (.bool (f l)) ∧ Keeps Non w' w2) :
    Calls Try.prog 66 #[.slice a n cap, .func (.func F) #[] Cs] w (IdxP (xss.any f) w) := by
  have hn := h.big
  have HX := hide h
  have HF := hide hF
  have HEn := hide he
  clear h hF he
  go_enter Try.func66, Try.ntmps66
  go_wp2_with fail
  obtain ⟨W, hW, hWk⟩ : ∃ W, w = W ∧ Keeps Non w W := ⟨w, rfl, Keeps.refl _ _⟩
  go_loopw [8] (fun i wr => ∃ k : Nat, k ≤ n ∧ i = .int .i64 k ∧ Hid (Keeps Non w wr) ∧ Hid ((xss.take k).any f = false)) (fun i _ => n - (intOf i).toNat)
  case atStart => exact ⟨0, Nat.zero_le _, rfl, Keeps.refl _ _, rfl⟩
  case round =>
    clear hW hWk
    obtain ⟨k, hk, rfl, HK, HA⟩ := hrel
    have hxl : xss.length = n := HX.out.len
    by_cases hlt : k < n
    · obtain ⟨b1, o1, rfl, hb1, hc1⟩ := HX.out.cell.resolve_left (by omega)
      obtain ⟨ai, ci, ckw, hR⟩ := hc1 k hlt
      have ck := (HK.out.cell (p := ⟨b1, o1 + k, none⟩) hb1 (fun x => x)).trans ckw
      replace hb1 := Nat.lt_of_lt_of_le hb1 HK.out.size
      have hts := any_take_succ f xss k [] (by omega)
      have hat := any_of_at f xss k [] (by omega)
      obtain ⟨x, hx⟩ : ∃ x, xss.getD k [] = x := ⟨_, rfl⟩
      rw [hx] at ck hts hat hR
      rw [HA.out] at hts
      have HC := hide (HF.out x ai ci wr hR HK.out)
      obtain ⟨v, hv⟩ : ∃ v, f x = v := ⟨_, rfl⟩
      rw [hv] at HC hts hat
      obtain ⟨q, hq⟩ : ∃ q, x.length = q := ⟨_, rfl⟩
      rw [hq] at HC ck
      have z0 : (0 : Int) ≤ (k : Int) := by omega
      have z1 : (k : Int) < (n : Int) := by omega
      clear hc1 hx hv hxl ckw hR hq
      cases v with
      | true =>
        have HT := hide (hat rfl)
        clear hat hts
        go_wp2_with fail
        rw [HEn.out]
        refine HC.out.mono ?_
        rintro e w2 ⟨rfl, hk2⟩
        have HK2 := hide (HK.out.then hk2)
        clear hk2
        go_wp2_with fail
        try rw [Exit.noGoto_ret]
        go_ret
        exact ⟨_, rfl, fun _ => by omega, (fun h => by rw [HT.out] at h; cases h), HK2.out⟩
      | false =>
        have HT : Hid ((xss.take (k + 1)).any f = false) := hts
        clear hat hts
        go_wp2_with fail
        rw [HEn.out]
        refine HC.out.mono ?_
        rintro e w2 ⟨rfl, hk2⟩
        have HK2 := hide (HK.out.then hk2)
        clear hk2
        go_wp2_with fail
        go_roundw
        case rel => exact ⟨k + 1, by omega, by go_num, HK2.out, HT.out⟩
        case measure => simp [intOf]; omega
    · have hkn : k = n := by omega
      subst hkn
      have HT : Hid (xss.any f = false) := by
        show _ = _
        rw [← HA.out, List.take_of_length_le (by omega)]
      have y9 : ¬ (k : Int) < (k : Int) := by omega
      clear hxl
      go_wp2_with fail
      try rw [Exit.noGoto_ret]
      go_ret
      exact ⟨_, rfl, (fun h => by rw [HT.out] at h; cases h), fun _ => rfl, HK.out⟩
theorem contains_rows (R : World → Option Addr → List Int → Prop) (a : Option Addr) (n cap : Nat) (xss : List (List Int)) (F : FuncId) (Cs : Array Value) (f : List Int → Bool) (w : World) (he : Ent F) (h : RowsG R w a n xss)
    (hF : ∀ l ai ci w', R w ai l → Keeps Non w w' → Calls Try.prog F (#[.slice ai l.length ci] ++ Cs) w' fun e w2 => e = .returned (.bool (f l)) ∧ Keeps Non w' w2) :
    Calls Try.prog 44 #[.slice a n cap, .func (.func F) #[] Cs] w fun e w' => e = .returned (.bool (xss.any f)) ∧ Keeps Non w w' := by
  have HC := hide (index_rows R a n cap xss F Cs f w he h hF)
  obtain ⟨v, hv⟩ : ∃ v, xss.any f = v := ⟨_, rfl⟩
  rw [hv] at HC ⊢
  clear h hF hv
  go_enter Try.func44, Try.ntmps44
  go_wp2_with fail
  refine HC.out.mono ?_
  rintro e w2 ⟨r, rfl, h1, h2, hk⟩
  have HK := hide hk
  clear hk
  cases v with
  | true =>
    have y0 : 0 ≤ r := h1 rfl
    clear h1 h2
    go_wp2_with fail
    go_ret
    exact ⟨ret_bool (by simp), HK.out⟩
  | false =>
    obtain rfl : r = -1 := h2 rfl
    clear h1 h2
    go_wp2_with fail
    go_ret
    exact ⟨rfl, HK.out⟩
theorem ent_of {f : FuncId} {fn : Func} {c : Code} (hf : Try.prog.funcs[f]? = some fn) (hn : fn.name ≠ "runtime.NumGoroutine") (hb : fn.body = some c) : Ent f := fun args w => by simp [callFunc, hf, hn, hb]
theorem ent68 : Ent 68 := ent_of Try.func68 (by decide) rfl
theorem ent69 : Ent 69 := ent_of Try.func69 (by decide) rfl
/-- No element. -/
def badB (n : Nat) (x : Int) : Bool := decide (x < 0) || decide ((n : Int) ≤ x)
theorem bad_l (x : Int) (a : Option Addr) (n cap b : Nat) (w : World) (h : Blk w b [.slice a n cap] 22) :
    Calls Try.prog 68 #[.int .i64 x, .pointer (some ⟨b, 0, none⟩)] w fun e w' => e = .returned (.bool (badB n x)) ∧ Keeps Non w w' := by
  have hc := h.cell 0
  simp only [List.getElem?_cons_zero] at hc
  clear h
  by_cases h0 : x < 0
  · have HB : Hid (badB n x = true) := by
      show _ = _
      unfold badB
      simp [h0]
    go_enter Try.func68, Try.ntmps68
    go_wp2_with fail
    go_ret
    exact ⟨ret_bool HB.out.symm, Keeps.refl _ _⟩
  · have hd : decide (x < 0) = false := by simpa using h0
    by_cases h1 : (n : Int) ≤ x
    · have HB : Hid (badB n x = true) := by
        show _ = _
        unfold badB
        simp [h1]
      go_enter Try.func68, Try.ntmps68
      go_wp2_with fail
      go_ret
      refine ⟨?_, Keeps.refl _ _⟩
      rw [HB.out]
      rfl
    · have HB : Hid (badB n x = false) := by
        show _ = _
        unfold badB
        simp only [h0, h1]
        rfl
      go_enter Try.func68, Try.ntmps68
      go_wp2_with fail
      go_ret
      refine ⟨?_, Keeps.refl _ _⟩
      rw [HB.out]
      rfl
/-- A list that is too long, or has what is no element. -/
def badL (n : Nat) (l : List Int) : Bool := decide (64 < l.length) || l.any (badB n)
theorem badL_l (l : List Int) (ai : Option Addr) (ci : Nat) (a : Option Addr) (n cap b c : Nat) (w : World) (hI : Ints w ai l.length l) (h : Blk w b [.slice a n cap] 22) (h2 : Blk w c [.func (.func 68) #[] #[.pointer (some ⟨b, 0, none⟩)]] 24) :
    Calls Try.prog 69 #[.slice ai l.length ci, .pointer (some ⟨c, 0, none⟩)] w fun e w' => e = .returned (.bool (badL n l)) ∧ Keeps Non w w' := by
  have hc := h2.cell 0
  simp only [List.getElem?_cons_zero] at hc
  have HC := hide (contains_int ai l.length ci l 68 (.pointer (some ⟨b, 0, none⟩)) (badB n) w ent68 hI (fun x w' hk => bad_l x a n cap b w' (h.keeps hk (fun x => x))))
  obtain ⟨q, hq⟩ : ∃ q, l.length = q := ⟨_, rfl⟩
  have HQ : Hid (badL n l = (decide (64 < q) || l.any (badB n))) := by
    show _ = _
    unfold badL
    rw [hq]
  rw [hq] at HC ⊢
  obtain ⟨v, hv⟩ : ∃ v, l.any (badB n) = v := ⟨_, rfl⟩
  rw [hv] at HC HQ
  clear h h2 hI hq hv
  by_cases h0 : 64 < q
  · have h1 : 64 < (q : Int) := by omega
    have HB : Hid (badL n l = true) := by
      show _ = _
      rw [HQ.out]
      simp [h0]
    clear h0 HQ
    go_enter Try.func69, Try.ntmps69
    go_wp2_with fail
    go_ret
    exact ⟨ret_bool HB.out.symm, Keeps.refl _ _⟩
  · have h1 : decide (64 < (q : Int)) = false := by simp; omega
    have HB : Hid (badL n l = v) := by
      show _ = _
      rw [HQ.out]
      simp only [h0]
      rfl
    clear h0 HQ
    go_enter Try.func69, Try.ntmps69
    go_wp2_with fail
    refine HC.out.mono ?_
    rintro e w2 ⟨rfl, hk⟩
    go_wp2_with fail
    go_ret
    exact ⟨ret_bool HB.out.symm, hk⟩
/-- What is wrong. -/
def wrongE (p : List Int) (next : List (List Int)) : Int := if rightB p = true then (if next.length ≠ p.length ∨ next.any (badL p.length) = true then 61 else 0) else 60
theorem wrong_l (a b : Option Addr) (n cap m cap2 : Nat) (p : List Int) (next : List (List Int)) (w : World) (h : Ints w a n p) (h2 : Rows w b m next) (hg : Good p) :
    Calls Try.prog 53 #[.slice a n cap, .slice b m cap2] w fun e w' => e = .returned (.int .i64 (wrongE p next)) ∧ Keeps Non w w' := by
  have hl := h.len
  have hl2 := h2.len
  obtain ⟨W, hW⟩ : ∃ W, w.alloc (.cells #[.slice a n cap] 22) = W := ⟨_, rfl⟩
  have kW : Keeps Non w W := by rw [← hW]; exact (Keeps.refl _ _).alloc _
  have bW : Blk W w.heap.size [.slice a n cap] 22 := by rw [← hW]; exact Blk.new w [.slice a n cap] 22
  have sW : W.heap.size = w.heap.size + 1 := by rw [← hW]; simp
  have cW := bW.cell 0
  simp only [List.getElem?_cons_zero] at cW
  by_cases hr : rightB p = true
  · have HR := hide (right_at a n cap p true W (h.non kW) hg hr)
    have HKW := hide kW
    have HBW := hide bW
    by_cases hnm : m = n
    · subst hnm
      have hC : ∀ w2, Keeps Non W w2 → Calls Try.prog 44 #[.slice b m cap2, .func (.func 69) #[] #[.pointer (some ⟨w2.heap.size, 0, none⟩)]] (w2.alloc (.cells #[.func (.func 68) #[] #[.pointer (some ⟨w.heap.size, 0, none⟩)]] 24)) fun e w' => e = .returned (.bool (next.any (badL m))) ∧ Keeps Non (w2.alloc (.cells #[.func (.func 68) #[] #[.pointer (some ⟨w.heap.size, 0, none⟩)]] 24)) w' := by
        intro w2 hk
        have k3 : Keeps Non W (w2.alloc (.cells #[.func (.func 68) #[] #[.pointer (some ⟨w.heap.size, 0, none⟩)]] 24)) := hk.alloc _
        refine contains_rows RI b m cap2 next 69 #[.pointer (some ⟨w2.heap.size, 0, none⟩)] (badL m) _ ent69 (rows_g (h2.non (kW.then k3))) fun l ai ci w' hR hk' => ?_
        exact badL_l l ai ci a m cap w.heap.size w2.heap.size w' (Ints.non hR hk') ((bW.keeps k3 (fun x => x)).keeps hk' (fun x => x)) ((Blk.new w2 [.func (.func 68) #[] #[.pointer (some ⟨w.heap.size, 0, none⟩)]] 24).keeps hk' (fun x => x))
      have HC := hide hC
      obtain ⟨v, hv⟩ : ∃ v, next.any (badL m) = v := ⟨_, rfl⟩
      rw [hv] at HC
      have HE : Hid (wrongE p next = if v = true then 61 else 0) := by
        show _ = _
        unfold wrongE
        rw [if_pos hr, hl, hl2, hv]
        simp
      obtain ⟨B, hB⟩ : ∃ B, w.heap.size = B := ⟨_, rfl⟩
      have HBB := hide hB
      have lW := bW.lt
      rw [hB] at cW lW
      clear h h2 hg hr hl hl2 hC hv kW bW
      go_enter Try.func53, Try.ntmps53
      go_wp2_with fail
      refine HR.out.mono ?_
      rintro e w2 ⟨rfl, hk⟩
      have HK := hide hk
      have c2 : w2.cell? ⟨B, 0, none⟩ = some (.slice a m cap) := by
        rw [← HBB.out]
        exact (HBW.out.keeps hk (fun x => x)).cell 0
      have l2 : B < w2.heap.size := by
        rw [← HBB.out]
        exact (HBW.out.keeps hk (fun x => x)).lt
      have HC2 := hide (HC.out w2 hk)
      rw [hB] at HC2
      clear hk hB HC hW sW cW
      cases v with
      | true =>
        go_wp2_with fail
        refine HC2.out.mono ?_
        rintro e w3 ⟨rfl, hk3⟩
        go_wp2_with fail
        go_ret
        refine ⟨by rw [HE.out]; rfl, (HKW.out.then (HK.out.alloc _)).then hk3⟩
      | false =>
        go_wp2_with fail
        refine HC2.out.mono ?_
        rintro e w3 ⟨rfl, hk3⟩
        go_wp2_with fail
        go_ret
        refine ⟨by rw [HE.out]; rfl, (HKW.out.then (HK.out.alloc _)).then hk3⟩
    · have HE : Hid (wrongE p next = 61) := by
        show _ = _
        unfold wrongE
        rw [if_pos hr, if_pos (.inl (by rw [hl, hl2]; exact hnm))]
      have e1 : ((m : Int) != (n : Int)) = true := by simp; omega
      obtain ⟨B, hB⟩ : ∃ B, w.heap.size = B := ⟨_, rfl⟩
      have HBB := hide hB
      have lW := bW.lt
      rw [hB] at cW lW
      clear h h2 hg hr hl hl2 kW bW hnm
      go_enter Try.func53, Try.ntmps53
      go_wp2_with fail
      refine HR.out.mono ?_
      rintro e w2 ⟨rfl, hk⟩
      have HK := hide hk
      have c2 : w2.cell? ⟨B, 0, none⟩ = some (.slice a n cap) := by
        rw [← HBB.out]
        exact (HBW.out.keeps hk (fun x => x)).cell 0
      have l2 : B < w2.heap.size := by
        rw [← HBB.out]
        exact (HBW.out.keeps hk (fun x => x)).lt
      clear hk hB hW sW cW
      go_wp2_with fail
      go_ret
      exact ⟨by rw [HE.out]; rfl, HKW.out.then (HK.out.alloc _)⟩
  · have HR := hide (right_at a n cap p false W (h.non kW) hg (rightB_not hr))
    have HE : Hid (wrongE p next = 60) := by
      show _ = _
      unfold wrongE
      rw [if_neg hr]
    have HKW := hide kW
    clear h h2 hg hr hl hl2 kW bW
    go_enter Try.func53, Try.ntmps53
    go_wp2_with fail
    refine HR.out.mono ?_
    rintro e w2 ⟨rfl, hk⟩
    go_wp2_with fail
    go_ret
    exact ⟨by rw [HE.out]; rfl, HKW.out.then hk⟩
end Go.Proofs.Ytkcbahfmdokalaa
