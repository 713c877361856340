/-
  The walk over layer 34's 'tells': the program and the reference say the same of timeouts. No condition.
-/
import Derived.Test.YtbgcglgbaekfeaaO
import Derived.Test.YtbgcglgbaekfeaaS
namespace Go.Proofs.Ytbgcglgbaekfeaa
open Go.RowKit
attribute [local go_sem] onto_cell onto_frozen dnn
theorem i64b {a : Int} (h : (Lit.int .i64 a).wf = true) : -9223372036854775808 ≤ a ∧ a ≤ 9223372036854775807 := by
  simp only [Lit.wf, Bool.and_eq_true, decide_eq_true_eq] at h
  exact h
theorem clone_ints (a : Option Addr) (n cap : Nat) (xs : List Int) (w : World) (h : Ints w a n xs) :
    Calls Try.prog 25 #[.slice a n cap] w fun e w' => ∃ a' c', e = .returned (.slice a' n c') ∧ Ints w' a' n xs ∧ Keeps Non w w' := by
  refine (clone_any a n cap xs w h).mono ?_
  rintro e w' ⟨v, rfl, ho, hk⟩
  obtain ⟨a', c', rfl, hI⟩ := ints_of_owns ho h.big
  exact ⟨a', c', rfl, hI, hk⟩
theorem rd3 (a : Option Addr) (n cap : Nat) (xs : List Int) (q x y z : Int) (w : World) (h : Ints w a n xs) (hq : q ≤ 9223372036854775807) (he : roR xs q = (x, y, z)) :
    Calls Try.prog 20 #[.slice a n cap, .int .i64 q] w fun e w' => e = .returned (.tuple #[.int .i64 x, .int .i64 y, .int .i64 z]) ∧ Keeps Non w w' := by
  have := rounds_any a n cap xs q w h hq
  rw [he] at this
  exact this
theorem rr3 (a : Option Addr) (n cap : Nat) (xs : List Int) (q x y z : Int) (w : World) (h : Ints w a n xs) (hq : q ≤ 9223372036854775807) (he : roR xs q = (x, y, z)) :
    Calls Try.prog 28 #[.slice a n cap, .int .i64 q] w fun e w' => e = .returned (.tuple #[.int .i64 x, .int .i64 y, .int .i64 z]) ∧ Keeps Non w w' := by
  have := rrounds_any a n cap xs q w h hq
  rw [he] at this
  exact this
theorem rg3 (a : Option Addr) (n cap : Nat) (xs : List Int) (p q x z : Int) (f : Bool) (w : World) (h : Ints w a n xs) (he : goR xs p q = (x, f, z)) :
    Calls Try.prog 27 #[.slice a n cap, .int .i64 p, .int .i64 q] w fun e w' => e = .returned (.tuple #[.int .i64 x, .bool f, .int .i64 z]) ∧ w = w' := by
  have := rgo_any a n cap xs p q w h
  rw [he] at this
  exact this
theorem check_ok0 (a : Option Addr) (n cap : Nat) (xs : List Int) (w : World) (h : Ints w a n xs) (hc : chk xs = 0) :
    Calls Try.prog 29 #[.slice a n cap] w fun e w' => e = .returned (.int .i64 0) ∧ w = w' := by
  have := check_any a n cap xs w h
  rwa [hc] at this
theorem equal_same (a : Option Addr) (n cap : Nat) (b : Option Addr) (m cap2 : Nat) (xs : List Int) (w : World) (h : Ints w a n xs) (h2 : Ints w b m xs) :
    Calls Try.prog 30 #[.slice a n cap, .slice b m cap2] w fun e w' => e = .returned (.bool true) ∧ Keeps Non w w' := by
  have := equal_any a n cap xs b m cap2 xs w h h2
  rwa [show decide (xs = xs) = true by simp] at this
theorem go_min {xs : List Int} (p q : Int) (hc : chk xs = 0) (hx : xs ≠ []) (hq : 2000 ≤ q) : goR xs p 2000 = goR xs p q := by
  have hT := ofT_bd hc hx
  by_cases h : p < 0 ∨ 1000 ≤ p
  · rw [goR_bad hc (by omega), goR_bad hc (by omega)]
  · by_cases h2 : ofT xs ≤ p
    · rw [goR_over hc hx (by omega) (by omega) (by omega) h2, goR_over hc hx (by omega) (by omega) (by omega) h2]
    · rw [goR_some hc hx (by omega) (by omega) (by omega) h2, goR_some hc hx (by omega) (by omega) (by omega) h2]
      have a1 : ofT xs - p < 2000 := by omega
      have a2 : ofT xs - p < q := by omega
      have a3 : ofT xs - p ≤ 2000 := by omega
      have a4 : ofT xs - p ≤ q := by omega
      simp [a1, a2, a3, a4]
set_option maxHeartbeats 4000000 in
set_option maxRecDepth 100000 in
theorem tells_some_lt (a : Option Addr) (n cap : Nat) (xs : List Int) (p q : Int) (w : World) (h : Ints w a n xs) (hq : q ≤ 9223372036854775807) (hc0 : chk xs = 0) (hx0 : xs ≠ []) (hA : q ≤ 2000) :
    Calls Try.prog 9 #[.slice a n cap, .int .i64 p, .int .i64 q] w fun e w' => e = .returned (.bool true) ∧ Keeps Non w w' := by
  obtain ⟨x, f, e3, hg⟩ : ∃ x f e3, goR xs p q = (x, f, e3) := ⟨_, _, _, rfl⟩
  have hg2 : goR xs p q = (x, f, e3) := by exact hg
  obtain ⟨d, m, e4, hr⟩ : ∃ d m e4, roR xs q = (d, m, e4) := ⟨_, _, _, rfl⟩
  have HG := hide hg
  have HG2 := hide hg2
  have HR := hide hr
  have hlen := h.len
  have hn : 0 < n := by have := List.length_pos_iff.2 hx0; omega
  have hi0 := ofI_lt hx0
  have hTI : Hid (xs.getD (ofI xs) 0 = ofT xs) := rfl
  have HF := hide (fun a n cap w h => first_some a n cap xs w h hc0 hx0)
  have HO := hide (fun a n cap w h => only_some a n cap xs w h hc0 hx0)
  have HRF := hide (fun a n cap w h => rfirst_some a n cap xs w h hc0 hx0)
  have hc := hide hc0
  have hx := hide hx0
  have HI := hide h
  have hbig := h.big
  have n0 : ¬ n = 0 := by omega
  have n1 : ((n : Int) == 0) = false := by simp; omega
  clear hg hg2 hr h hc0 hx0
  generalize ofT xs = t at *
  generalize ofI xs = r at *
  have z0 : (0 : Int) ≤ (r : Int) := by omega
  have z1 : (r : Int) < (n : Int) := by omega
  have z7 : ¬ (r : Int) < 0 := by omega
  have z4 : r < n := by omega
  go_enter Try.func9, Try.ntmps9
  go_wp2_with fail
  refine (clone_ints a n cap xs _ HI.out).mono ?_
  rintro e w1 ⟨a', c', rfl, hI, hk⟩
  have HI := hide (HI.out.non hk)
  have HI2 := hide hI
  have HK := hide hk
  clear hk hI
  go_wp2_with fail
  refine (HF.out a' n c' _ HI2.out).mono ?_
  rintro e w2 ⟨rfl, hk⟩
  have HI := hide (HI.out.non hk)
  have HI2 := hide (HI2.out.non hk)
  have HK := hide (HK.out.then hk)
  clear hk
  go_wp2_with fail
  refine (HO.out a' n c' _ HI2.out).mono ?_
  rintro e w3 ⟨a2, c2, rfl, hI3, hk⟩
  have HI := hide (HI.out.non hk)
  have HI2 := hide (HI2.out.non hk)
  have HI3 := hide hI3
  have HK := hide (HK.out.then hk)
  clear hk hI3
  go_wp2_with fail
  refine (gd_any a' n c' xs p q x e3 f _ HI2.out HG.out).mono ?_
  rintro e w4 ⟨rfl, hk⟩
  have HI := hide (HI.out.non hk)
  have HI2 := hide (HI2.out.non hk)
  have HI3 := hide (HI3.out.non hk)
  have HK := hide (HK.out.then hk)
  clear hk
  go_wp2_with fail
  refine (rd3 a' n c' xs q d m e4 _ HI2.out (by omega) HR.out).mono ?_
  rintro e w5 ⟨rfl, hk⟩
  have HI := hide (HI.out.non hk)
  have HI2 := hide (HI2.out.non hk)
  have HI3 := hide (HI3.out.non hk)
  have HK := hide (HK.out.then hk)
  clear hk
  go_wp2_with fail
  refine (rcheck_ok a n cap xs _ HI.out hc.out).mono ?_
  rintro e w6 ⟨rfl, rfl⟩
  go_wp2_with fail
  refine (rg3 a n cap xs p q x e3 f _ HI.out HG2.out).mono ?_
  rintro e w7 ⟨rfl, rfl⟩
  go_wp2_with fail
  refine (rr3 a n cap xs q d m e4 _ HI.out (by omega) HR.out).mono ?_
  rintro e w8 ⟨rfl, hk⟩
  have HI := hide (HI.out.non hk)
  have HI2 := hide (HI2.out.non hk)
  have HI3 := hide (HI3.out.non hk)
  have HK := hide (HK.out.then hk)
  clear hk
  go_wp2_with fail
  refine (check_ok0 a' n c' xs _ HI2.out hc.out).mono ?_
  rintro e w9 ⟨rfl, rfl⟩
  go_wp2_with fail
  refine (equal_same a' n c' a n cap xs _ HI2.out HI.out).mono ?_
  rintro e w10 ⟨rfl, hk⟩
  have HI := hide (HI.out.non hk)
  have HI3 := hide (HI3.out.non hk)
  have HK := hide (HK.out.then hk)
  clear hk HI2
  go_wp2_with fail
  refine (HRF.out a n cap _ HI.out).mono ?_
  rintro e w11 ⟨rfl, rfl⟩
  obtain ⟨ab, ao, rfl, hab, hcl⟩ := HI.out.at (by omega)
  have cr := hcl r (by omega)
  rw [hTI.out] at cr
  clear hcl
  go_wp2_with fail
  have HKa := hide ((Keeps.refl Non w10).alloc (.cells #[.int .i64 t] 3))
  have HI4 := hide (ints_of_blk (xs := [t]) (Blk.new w10 [.int .i64 t] 3) (by simp))
  refine (equal_same a2 1 c2 _ 1 1 [t] _ (HI3.out.non HKa.out) HI4.out).mono ?_
  rintro e w12 ⟨rfl, hk⟩
  have HK := hide ((HK.out.then HKa.out).then hk)
  clear hk
  go_wp2_with fail
  go_ret
  exact ⟨rfl, HK.out⟩
set_option maxHeartbeats 4000000 in
set_option maxRecDepth 100000 in
theorem tells_some_ge (a : Option Addr) (n cap : Nat) (xs : List Int) (p q : Int) (w : World) (h : Ints w a n xs) (hq : q ≤ 9223372036854775807) (hc0 : chk xs = 0) (hx0 : xs ≠ []) (hA : 2000 < q) :
    Calls Try.prog 9 #[.slice a n cap, .int .i64 p, .int .i64 q] w fun e w' => e = .returned (.bool true) ∧ Keeps Non w w' := by
  obtain ⟨x, f, e3, hg⟩ : ∃ x f e3, goR xs p q = (x, f, e3) := ⟨_, _, _, rfl⟩
  have hg2 : goR xs p 2000 = (x, f, e3) := by rw [go_min p q hc0 hx0 (by omega), hg]
  obtain ⟨d, m, e4, hr⟩ : ∃ d m e4, roR xs q = (d, m, e4) := ⟨_, _, _, rfl⟩
  have HG := hide hg
  have HG2 := hide hg2
  have HR := hide hr
  have hlen := h.len
  have hn : 0 < n := by have := List.length_pos_iff.2 hx0; omega
  have hi0 := ofI_lt hx0
  have hTI : Hid (xs.getD (ofI xs) 0 = ofT xs) := rfl
  have HF := hide (fun a n cap w h => first_some a n cap xs w h hc0 hx0)
  have HO := hide (fun a n cap w h => only_some a n cap xs w h hc0 hx0)
  have HRF := hide (fun a n cap w h => rfirst_some a n cap xs w h hc0 hx0)
  have hc := hide hc0
  have hx := hide hx0
  have HI := hide h
  have hbig := h.big
  have n0 : ¬ n = 0 := by omega
  have n1 : ((n : Int) == 0) = false := by simp; omega
  clear hg hg2 hr h hc0 hx0
  generalize ofT xs = t at *
  generalize ofI xs = r at *
  have z0 : (0 : Int) ≤ (r : Int) := by omega
  have z1 : (r : Int) < (n : Int) := by omega
  have z7 : ¬ (r : Int) < 0 := by omega
  have z4 : r < n := by omega
  go_enter Try.func9, Try.ntmps9
  go_wp2_with fail
  refine (clone_ints a n cap xs _ HI.out).mono ?_
  rintro e w1 ⟨a', c', rfl, hI, hk⟩
  have HI := hide (HI.out.non hk)
  have HI2 := hide hI
  have HK := hide hk
  clear hk hI
  go_wp2_with fail
  refine (HF.out a' n c' _ HI2.out).mono ?_
  rintro e w2 ⟨rfl, hk⟩
  have HI := hide (HI.out.non hk)
  have HI2 := hide (HI2.out.non hk)
  have HK := hide (HK.out.then hk)
  clear hk
  go_wp2_with fail
  refine (HO.out a' n c' _ HI2.out).mono ?_
  rintro e w3 ⟨a2, c2, rfl, hI3, hk⟩
  have HI := hide (HI.out.non hk)
  have HI2 := hide (HI2.out.non hk)
  have HI3 := hide hI3
  have HK := hide (HK.out.then hk)
  clear hk hI3
  go_wp2_with fail
  refine (gd_any a' n c' xs p q x e3 f _ HI2.out HG.out).mono ?_
  rintro e w4 ⟨rfl, hk⟩
  have HI := hide (HI.out.non hk)
  have HI2 := hide (HI2.out.non hk)
  have HI3 := hide (HI3.out.non hk)
  have HK := hide (HK.out.then hk)
  clear hk
  go_wp2_with fail
  refine (rd3 a' n c' xs q d m e4 _ HI2.out (by omega) HR.out).mono ?_
  rintro e w5 ⟨rfl, hk⟩
  have HI := hide (HI.out.non hk)
  have HI2 := hide (HI2.out.non hk)
  have HI3 := hide (HI3.out.non hk)
  have HK := hide (HK.out.then hk)
  clear hk
  go_wp2_with fail
  refine (rcheck_ok a n cap xs _ HI.out hc.out).mono ?_
  rintro e w6 ⟨rfl, rfl⟩
  go_wp2_with fail
  refine (rg3 a n cap xs p 2000 x e3 f _ HI.out HG2.out).mono ?_
  rintro e w7 ⟨rfl, rfl⟩
  go_wp2_with fail
  refine (rr3 a n cap xs q d m e4 _ HI.out (by omega) HR.out).mono ?_
  rintro e w8 ⟨rfl, hk⟩
  have HI := hide (HI.out.non hk)
  have HI2 := hide (HI2.out.non hk)
  have HI3 := hide (HI3.out.non hk)
  have HK := hide (HK.out.then hk)
  clear hk
  go_wp2_with fail
  refine (check_ok0 a' n c' xs _ HI2.out hc.out).mono ?_
  rintro e w9 ⟨rfl, rfl⟩
  go_wp2_with fail
  refine (equal_same a' n c' a n cap xs _ HI2.out HI.out).mono ?_
  rintro e w10 ⟨rfl, hk⟩
  have HI := hide (HI.out.non hk)
  have HI3 := hide (HI3.out.non hk)
  have HK := hide (HK.out.then hk)
  clear hk HI2
  go_wp2_with fail
  refine (HRF.out a n cap _ HI.out).mono ?_
  rintro e w11 ⟨rfl, rfl⟩
  obtain ⟨ab, ao, rfl, hab, hcl⟩ := HI.out.at (by omega)
  have cr := hcl r (by omega)
  rw [hTI.out] at cr
  clear hcl
  go_wp2_with fail
  have HKa := hide ((Keeps.refl Non w10).alloc (.cells #[.int .i64 t] 3))
  have HI4 := hide (ints_of_blk (xs := [t]) (Blk.new w10 [.int .i64 t] 3) (by simp))
  refine (equal_same a2 1 c2 _ 1 1 [t] _ (HI3.out.non HKa.out) HI4.out).mono ?_
  rintro e w12 ⟨rfl, hk⟩
  have HK := hide ((HK.out.then HKa.out).then hk)
  clear hk
  go_wp2_with fail
  go_ret
  exact ⟨rfl, HK.out⟩

set_option maxHeartbeats 4000000 in
set_option maxRecDepth 100000 in
theorem tells_nil_lt_ok (a : Option Addr) (cap : Nat) (p q : Int) (w : World) (h : Ints w a 0 []) (hq : q ≤ 9223372036854775807) (hA : q ≤ 2000) (hp0 : 0 ≤ p) (hp1 : p ≤ 999) (hq0 : 0 ≤ q) :
    Calls Try.prog 9 #[.slice a 0 cap, .int .i64 p, .int .i64 q] w fun e w' => e = .returned (.bool true) ∧ Keeps Non w w' := by
  have HG : Hid (goR [] p q = (q, false, 0)) := by exact goR_nil (by omega) (by omega) (by omega)
  have HG2 : Hid (goR [] p q = (q, false, 0)) := by exact goR_nil (by omega) (by omega) (by omega)
  have HR : Hid (roR [] q = (0, q, 0)) := by exact ro_nil rfl rfl hq0
  have hc : Hid (chk [] = 0) := rfl
  have HI := hide h
  clear h
  go_enter Try.func9, Try.ntmps9
  go_wp2_with fail
  refine (clone_ints a 0 cap [] _ HI.out).mono ?_
  rintro e w1 ⟨a', c', rfl, hI, hk⟩
  have HI := hide (HI.out.non hk)
  have HI2 := hide hI
  have HK := hide hk
  clear hk hI
  go_wp2_with fail
  refine (first_nil a' 0 c' _ HI2.out).mono ?_
  rintro e w2 ⟨rfl, hk⟩
  have HI := hide (HI.out.non hk)
  have HI2 := hide (HI2.out.non hk)
  have HK := hide (HK.out.then hk)
  clear hk
  go_wp2_with fail
  refine (only_nil a' 0 c' _ HI2.out).mono ?_
  rintro e w3 ⟨a2, c2, rfl, hI3, hk⟩
  have HI := hide (HI.out.non hk)
  have HI2 := hide (HI2.out.non hk)
  have HK := hide (HK.out.then hk)
  clear hk hI3
  go_wp2_with fail
  refine (gd_any a' 0 c' [] p q _ _ _ _ HI2.out HG.out).mono ?_
  rintro e w4 ⟨rfl, hk⟩
  have HI := hide (HI.out.non hk)
  have HI2 := hide (HI2.out.non hk)
  have HK := hide (HK.out.then hk)
  clear hk
  go_wp2_with fail
  refine (rd3 a' 0 c' [] q _ _ _ _ HI2.out (by omega) HR.out).mono ?_
  rintro e w5 ⟨rfl, hk⟩
  have HI := hide (HI.out.non hk)
  have HI2 := hide (HI2.out.non hk)
  have HK := hide (HK.out.then hk)
  clear hk
  go_wp2_with fail
  refine (rcheck_ok a 0 cap [] _ HI.out hc.out).mono ?_
  rintro e w6 ⟨rfl, rfl⟩
  go_wp2_with fail
  refine (rg3 a 0 cap [] p q _ _ _ _ HI.out HG2.out).mono ?_
  rintro e w7 ⟨rfl, rfl⟩
  go_wp2_with fail
  refine (rr3 a 0 cap [] q _ _ _ _ HI.out (by omega) HR.out).mono ?_
  rintro e w8 ⟨rfl, hk⟩
  have HI := hide (HI.out.non hk)
  have HI2 := hide (HI2.out.non hk)
  have HK := hide (HK.out.then hk)
  clear hk
  go_wp2_with fail
  refine (check_ok0 a' 0 c' [] _ HI2.out hc.out).mono ?_
  rintro e w9 ⟨rfl, rfl⟩
  go_wp2_with fail
  refine (equal_same a' 0 c' a 0 cap [] _ HI2.out HI.out).mono ?_
  rintro e w10 ⟨rfl, hk⟩
  have HI := hide (HI.out.non hk)
  have HK := hide (HK.out.then hk)
  clear hk HI2
  go_wp2_with fail
  refine (rfirst_nil a 0 cap [] _ HI.out hc.out rfl).mono ?_
  rintro e w11 ⟨rfl, rfl⟩
  go_wp2_with fail
  go_ret
  exact ⟨rfl, HK.out⟩
set_option maxHeartbeats 4000000 in
set_option maxRecDepth 100000 in
theorem tells_nil_ge_ok (a : Option Addr) (cap : Nat) (p q : Int) (w : World) (h : Ints w a 0 []) (hq : q ≤ 9223372036854775807) (hA : 2000 < q) (hp0 : 0 ≤ p) (hp1 : p ≤ 999) :
    Calls Try.prog 9 #[.slice a 0 cap, .int .i64 p, .int .i64 q] w fun e w' => e = .returned (.bool true) ∧ Keeps Non w w' := by
  have HG : Hid (goR [] p q = (q, false, 0)) := by exact goR_nil (by omega) (by omega) (by omega)
  have HG2 : Hid (goR [] p 2000 = (2000, false, 0)) := by exact goR_nil (by omega) (by omega) (by omega)
  have HR : Hid (roR [] q = (0, q, 0)) := by exact ro_nil rfl rfl (by omega)
  have hc : Hid (chk [] = 0) := rfl
  have HI := hide h
  clear h
  go_enter Try.func9, Try.ntmps9
  go_wp2_with fail
  refine (clone_ints a 0 cap [] _ HI.out).mono ?_
  rintro e w1 ⟨a', c', rfl, hI, hk⟩
  have HI := hide (HI.out.non hk)
  have HI2 := hide hI
  have HK := hide hk
  clear hk hI
  go_wp2_with fail
  refine (first_nil a' 0 c' _ HI2.out).mono ?_
  rintro e w2 ⟨rfl, hk⟩
  have HI := hide (HI.out.non hk)
  have HI2 := hide (HI2.out.non hk)
  have HK := hide (HK.out.then hk)
  clear hk
  go_wp2_with fail
  refine (only_nil a' 0 c' _ HI2.out).mono ?_
  rintro e w3 ⟨a2, c2, rfl, hI3, hk⟩
  have HI := hide (HI.out.non hk)
  have HI2 := hide (HI2.out.non hk)
  have HK := hide (HK.out.then hk)
  clear hk hI3
  go_wp2_with fail
  refine (gd_any a' 0 c' [] p q _ _ _ _ HI2.out HG.out).mono ?_
  rintro e w4 ⟨rfl, hk⟩
  have HI := hide (HI.out.non hk)
  have HI2 := hide (HI2.out.non hk)
  have HK := hide (HK.out.then hk)
  clear hk
  go_wp2_with fail
  refine (rd3 a' 0 c' [] q _ _ _ _ HI2.out (by omega) HR.out).mono ?_
  rintro e w5 ⟨rfl, hk⟩
  have HI := hide (HI.out.non hk)
  have HI2 := hide (HI2.out.non hk)
  have HK := hide (HK.out.then hk)
  clear hk
  go_wp2_with fail
  refine (rcheck_ok a 0 cap [] _ HI.out hc.out).mono ?_
  rintro e w6 ⟨rfl, rfl⟩
  go_wp2_with fail
  refine (rg3 a 0 cap [] p 2000 _ _ _ _ HI.out HG2.out).mono ?_
  rintro e w7 ⟨rfl, rfl⟩
  go_wp2_with fail
  refine (rr3 a 0 cap [] q _ _ _ _ HI.out (by omega) HR.out).mono ?_
  rintro e w8 ⟨rfl, hk⟩
  have HI := hide (HI.out.non hk)
  have HI2 := hide (HI2.out.non hk)
  have HK := hide (HK.out.then hk)
  clear hk
  go_wp2_with fail
  refine (check_ok0 a' 0 c' [] _ HI2.out hc.out).mono ?_
  rintro e w9 ⟨rfl, rfl⟩
  go_wp2_with fail
  refine (equal_same a' 0 c' a 0 cap [] _ HI2.out HI.out).mono ?_
  rintro e w10 ⟨rfl, hk⟩
  have HI := hide (HI.out.non hk)
  have HK := hide (HK.out.then hk)
  clear hk HI2
  go_wp2_with fail
  refine (rfirst_nil a 0 cap [] _ HI.out hc.out rfl).mono ?_
  rintro e w11 ⟨rfl, rfl⟩
  go_wp2_with fail
  go_ret
  exact ⟨rfl, HK.out⟩
set_option maxHeartbeats 4000000 in
set_option maxRecDepth 100000 in
theorem tells_nil_neg (a : Option Addr) (cap : Nat) (p q : Int) (w : World) (h : Ints w a 0 []) (hq : q ≤ 9223372036854775807) (_hA : q ≤ 2000) (hq0 : q < 0) :
    Calls Try.prog 9 #[.slice a 0 cap, .int .i64 p, .int .i64 q] w fun e w' => e = .returned (.bool true) ∧ Keeps Non w w' := by
  have HG : Hid (goR [] p q = (0, false, 2)) := by exact goR_bad rfl (by omega)
  have HG2 : Hid (goR [] p q = (0, false, 2)) := by exact goR_bad rfl (by omega)
  have HR : Hid (roR [] q = (0, 0, 2)) := by (have : chk [] = 0 := rfl); simp [Hid, roR, this, hq0]
  have hc : Hid (chk [] = 0) := rfl
  have HI := hide h
  clear h
  go_enter Try.func9, Try.ntmps9
  go_wp2_with fail
  refine (clone_ints a 0 cap [] _ HI.out).mono ?_
  rintro e w1 ⟨a', c', rfl, hI, hk⟩
  have HI := hide (HI.out.non hk)
  have HI2 := hide hI
  have HK := hide hk
  clear hk hI
  go_wp2_with fail
  refine (first_nil a' 0 c' _ HI2.out).mono ?_
  rintro e w2 ⟨rfl, hk⟩
  have HI := hide (HI.out.non hk)
  have HI2 := hide (HI2.out.non hk)
  have HK := hide (HK.out.then hk)
  clear hk
  go_wp2_with fail
  refine (only_nil a' 0 c' _ HI2.out).mono ?_
  rintro e w3 ⟨a2, c2, rfl, hI3, hk⟩
  have HI := hide (HI.out.non hk)
  have HI2 := hide (HI2.out.non hk)
  have HK := hide (HK.out.then hk)
  clear hk hI3
  go_wp2_with fail
  refine (gd_any a' 0 c' [] p q _ _ _ _ HI2.out HG.out).mono ?_
  rintro e w4 ⟨rfl, hk⟩
  have HI := hide (HI.out.non hk)
  have HI2 := hide (HI2.out.non hk)
  have HK := hide (HK.out.then hk)
  clear hk
  go_wp2_with fail
  refine (rd3 a' 0 c' [] q _ _ _ _ HI2.out (by omega) HR.out).mono ?_
  rintro e w5 ⟨rfl, hk⟩
  have HI := hide (HI.out.non hk)
  have HI2 := hide (HI2.out.non hk)
  have HK := hide (HK.out.then hk)
  clear hk
  go_wp2_with fail
  refine (rcheck_ok a 0 cap [] _ HI.out hc.out).mono ?_
  rintro e w6 ⟨rfl, rfl⟩
  go_wp2_with fail
  refine (rg3 a 0 cap [] p q _ _ _ _ HI.out HG2.out).mono ?_
  rintro e w7 ⟨rfl, rfl⟩
  go_wp2_with fail
  refine (rr3 a 0 cap [] q _ _ _ _ HI.out (by omega) HR.out).mono ?_
  rintro e w8 ⟨rfl, hk⟩
  have HI := hide (HI.out.non hk)
  have HI2 := hide (HI2.out.non hk)
  have HK := hide (HK.out.then hk)
  clear hk
  go_wp2_with fail
  refine (check_ok0 a' 0 c' [] _ HI2.out hc.out).mono ?_
  rintro e w9 ⟨rfl, rfl⟩
  go_wp2_with fail
  refine (equal_same a' 0 c' a 0 cap [] _ HI2.out HI.out).mono ?_
  rintro e w10 ⟨rfl, hk⟩
  have HI := hide (HI.out.non hk)
  have HK := hide (HK.out.then hk)
  clear hk HI2
  go_wp2_with fail
  refine (rfirst_nil a 0 cap [] _ HI.out hc.out rfl).mono ?_
  rintro e w11 ⟨rfl, rfl⟩
  go_wp2_with fail
  go_ret
  exact ⟨rfl, HK.out⟩
set_option maxHeartbeats 4000000 in
set_option maxRecDepth 100000 in
theorem tells_nil_lt_bad (a : Option Addr) (cap : Nat) (p q : Int) (w : World) (h : Ints w a 0 []) (hq : q ≤ 9223372036854775807) (hA : q ≤ 2000) (hp0 : p < 0 ∨ 1000 ≤ p) (hq0 : 0 ≤ q) :
    Calls Try.prog 9 #[.slice a 0 cap, .int .i64 p, .int .i64 q] w fun e w' => e = .returned (.bool true) ∧ Keeps Non w w' := by
  have HG : Hid (goR [] p q = (0, false, 2)) := by exact goR_bad rfl (by omega)
  have HG2 : Hid (goR [] p q = (0, false, 2)) := by exact goR_bad rfl (by omega)
  have HR : Hid (roR [] q = (0, q, 0)) := by exact ro_nil rfl rfl hq0
  have hc : Hid (chk [] = 0) := rfl
  have HI := hide h
  clear h
  go_enter Try.func9, Try.ntmps9
  go_wp2_with fail
  refine (clone_ints a 0 cap [] _ HI.out).mono ?_
  rintro e w1 ⟨a', c', rfl, hI, hk⟩
  have HI := hide (HI.out.non hk)
  have HI2 := hide hI
  have HK := hide hk
  clear hk hI
  go_wp2_with fail
  refine (first_nil a' 0 c' _ HI2.out).mono ?_
  rintro e w2 ⟨rfl, hk⟩
  have HI := hide (HI.out.non hk)
  have HI2 := hide (HI2.out.non hk)
  have HK := hide (HK.out.then hk)
  clear hk
  go_wp2_with fail
  refine (only_nil a' 0 c' _ HI2.out).mono ?_
  rintro e w3 ⟨a2, c2, rfl, hI3, hk⟩
  have HI := hide (HI.out.non hk)
  have HI2 := hide (HI2.out.non hk)
  have HK := hide (HK.out.then hk)
  clear hk hI3
  go_wp2_with fail
  refine (gd_any a' 0 c' [] p q _ _ _ _ HI2.out HG.out).mono ?_
  rintro e w4 ⟨rfl, hk⟩
  have HI := hide (HI.out.non hk)
  have HI2 := hide (HI2.out.non hk)
  have HK := hide (HK.out.then hk)
  clear hk
  go_wp2_with fail
  refine (rd3 a' 0 c' [] q _ _ _ _ HI2.out (by omega) HR.out).mono ?_
  rintro e w5 ⟨rfl, hk⟩
  have HI := hide (HI.out.non hk)
  have HI2 := hide (HI2.out.non hk)
  have HK := hide (HK.out.then hk)
  clear hk
  go_wp2_with fail
  refine (rcheck_ok a 0 cap [] _ HI.out hc.out).mono ?_
  rintro e w6 ⟨rfl, rfl⟩
  go_wp2_with fail
  refine (rg3 a 0 cap [] p q _ _ _ _ HI.out HG2.out).mono ?_
  rintro e w7 ⟨rfl, rfl⟩
  go_wp2_with fail
  refine (rr3 a 0 cap [] q _ _ _ _ HI.out (by omega) HR.out).mono ?_
  rintro e w8 ⟨rfl, hk⟩
  have HI := hide (HI.out.non hk)
  have HI2 := hide (HI2.out.non hk)
  have HK := hide (HK.out.then hk)
  clear hk
  go_wp2_with fail
  refine (check_ok0 a' 0 c' [] _ HI2.out hc.out).mono ?_
  rintro e w9 ⟨rfl, rfl⟩
  go_wp2_with fail
  refine (equal_same a' 0 c' a 0 cap [] _ HI2.out HI.out).mono ?_
  rintro e w10 ⟨rfl, hk⟩
  have HI := hide (HI.out.non hk)
  have HK := hide (HK.out.then hk)
  clear hk HI2
  go_wp2_with fail
  refine (rfirst_nil a 0 cap [] _ HI.out hc.out rfl).mono ?_
  rintro e w11 ⟨rfl, rfl⟩
  go_wp2_with fail
  go_ret
  exact ⟨rfl, HK.out⟩
set_option maxHeartbeats 4000000 in
set_option maxRecDepth 100000 in
theorem tells_nil_ge_bad (a : Option Addr) (cap : Nat) (p q : Int) (w : World) (h : Ints w a 0 []) (hq : q ≤ 9223372036854775807) (hA : 2000 < q) (hp0 : p < 0 ∨ 1000 ≤ p) :
    Calls Try.prog 9 #[.slice a 0 cap, .int .i64 p, .int .i64 q] w fun e w' => e = .returned (.bool true) ∧ Keeps Non w w' := by
  have HG : Hid (goR [] p q = (0, false, 2)) := by exact goR_bad rfl (by omega)
  have HG2 : Hid (goR [] p 2000 = (0, false, 2)) := by exact goR_bad rfl (by omega)
  have HR : Hid (roR [] q = (0, q, 0)) := by exact ro_nil rfl rfl (by omega)
  have hc : Hid (chk [] = 0) := rfl
  have HI := hide h
  clear h
  go_enter Try.func9, Try.ntmps9
  go_wp2_with fail
  refine (clone_ints a 0 cap [] _ HI.out).mono ?_
  rintro e w1 ⟨a', c', rfl, hI, hk⟩
  have HI := hide (HI.out.non hk)
  have HI2 := hide hI
  have HK := hide hk
  clear hk hI
  go_wp2_with fail
  refine (first_nil a' 0 c' _ HI2.out).mono ?_
  rintro e w2 ⟨rfl, hk⟩
  have HI := hide (HI.out.non hk)
  have HI2 := hide (HI2.out.non hk)
  have HK := hide (HK.out.then hk)
  clear hk
  go_wp2_with fail
  refine (only_nil a' 0 c' _ HI2.out).mono ?_
  rintro e w3 ⟨a2, c2, rfl, hI3, hk⟩
  have HI := hide (HI.out.non hk)
  have HI2 := hide (HI2.out.non hk)
  have HK := hide (HK.out.then hk)
  clear hk hI3
  go_wp2_with fail
  refine (gd_any a' 0 c' [] p q _ _ _ _ HI2.out HG.out).mono ?_
  rintro e w4 ⟨rfl, hk⟩
  have HI := hide (HI.out.non hk)
  have HI2 := hide (HI2.out.non hk)
  have HK := hide (HK.out.then hk)
  clear hk
  go_wp2_with fail
  refine (rd3 a' 0 c' [] q _ _ _ _ HI2.out (by omega) HR.out).mono ?_
  rintro e w5 ⟨rfl, hk⟩
  have HI := hide (HI.out.non hk)
  have HI2 := hide (HI2.out.non hk)
  have HK := hide (HK.out.then hk)
  clear hk
  go_wp2_with fail
  refine (rcheck_ok a 0 cap [] _ HI.out hc.out).mono ?_
  rintro e w6 ⟨rfl, rfl⟩
  go_wp2_with fail
  refine (rg3 a 0 cap [] p 2000 _ _ _ _ HI.out HG2.out).mono ?_
  rintro e w7 ⟨rfl, rfl⟩
  go_wp2_with fail
  refine (rr3 a 0 cap [] q _ _ _ _ HI.out (by omega) HR.out).mono ?_
  rintro e w8 ⟨rfl, hk⟩
  have HI := hide (HI.out.non hk)
  have HI2 := hide (HI2.out.non hk)
  have HK := hide (HK.out.then hk)
  clear hk
  go_wp2_with fail
  refine (check_ok0 a' 0 c' [] _ HI2.out hc.out).mono ?_
  rintro e w9 ⟨rfl, rfl⟩
  go_wp2_with fail
  refine (equal_same a' 0 c' a 0 cap [] _ HI2.out HI.out).mono ?_
  rintro e w10 ⟨rfl, hk⟩
  have HI := hide (HI.out.non hk)
  have HK := hide (HK.out.then hk)
  clear hk HI2
  go_wp2_with fail
  refine (rfirst_nil a 0 cap [] _ HI.out hc.out rfl).mono ?_
  rintro e w11 ⟨rfl, rfl⟩
  go_wp2_with fail
  go_ret
  exact ⟨rfl, HK.out⟩
set_option maxHeartbeats 4000000 in
set_option maxRecDepth 100000 in
theorem tells_bad_lt (a : Option Addr) (n cap : Nat) (xs : List Int) (p q : Int) (w : World) (h : Ints w a n xs) (hq : q ≤ 9223372036854775807) (hc0 : chk xs ≠ 0) (hA : q ≤ 2000) :
    Calls Try.prog 9 #[.slice a n cap, .int .i64 p, .int .i64 q] w fun e w' => e = .returned (.bool true) ∧ Keeps Non w w' := by
  have HG := hide (goR_err (p := p) (q := q) hc0)
  have HG2 := hide (goR_err (p := p) (q := q) hc0)
  have HR : Hid (roR xs q = (0, 0, chk xs)) := by simp [Hid, roR, hc0]
  have c1 : (chk xs == 0) = false := by simp [hc0]
  have c2 : (chk xs != 0) = true := by simp [hc0]
  have HF := hide (fun a n cap w h => first_bad a n cap xs w h c2)
  have HO := hide (fun a n cap w h => only_bad a n cap xs w h c2)
  have HCK := hide (fun a n cap w h => check_any a n cap xs w h)
  have HRC := hide (fun a n cap w h => rcheck_any a n cap xs w h)
  have HI := hide h
  clear h hc0
  generalize chk xs = c at *
  go_enter Try.func9, Try.ntmps9
  go_wp2_with fail
  refine (clone_ints a n cap xs _ HI.out).mono ?_
  rintro e w1 ⟨a', c', rfl, hI, hk⟩
  have HI := hide (HI.out.non hk)
  have HI2 := hide hI
  have HK := hide hk
  clear hk hI
  go_wp2_with fail
  refine (HF.out a' n c' _ HI2.out).mono ?_
  rintro e w2 ⟨rfl, hk⟩
  have HI := hide (HI.out.non hk)
  have HI2 := hide (HI2.out.non hk)
  have HK := hide (HK.out.then hk)
  clear hk
  go_wp2_with fail
  refine (HO.out a' n c' _ HI2.out).mono ?_
  rintro e w3 ⟨rfl, rfl⟩
  go_wp2_with fail
  refine (gd_any a' n c' xs p q _ _ _ _ HI2.out HG.out).mono ?_
  rintro e w4 ⟨rfl, hk⟩
  have HI := hide (HI.out.non hk)
  have HI2 := hide (HI2.out.non hk)
  have HK := hide (HK.out.then hk)
  clear hk
  go_wp2_with fail
  refine (rd3 a' n c' xs q _ _ _ _ HI2.out (by omega) HR.out).mono ?_
  rintro e w5 ⟨rfl, hk⟩
  have HI := hide (HI.out.non hk)
  have HI2 := hide (HI2.out.non hk)
  have HK := hide (HK.out.then hk)
  clear hk
  go_wp2_with fail
  refine (HRC.out a n cap _ HI.out).mono ?_
  rintro e w6 ⟨rfl, rfl⟩
  go_wp2_with fail
  refine (rg3 a n cap xs p q _ _ _ _ HI.out HG2.out).mono ?_
  rintro e w7 ⟨rfl, rfl⟩
  go_wp2_with fail
  refine (rr3 a n cap xs q _ _ _ _ HI.out (by omega) HR.out).mono ?_
  rintro e w8 ⟨rfl, hk⟩
  have HI := hide (HI.out.non hk)
  have HI2 := hide (HI2.out.non hk)
  have HK := hide (HK.out.then hk)
  clear hk
  go_wp2_with fail
  refine (HCK.out a' n c' _ HI2.out).mono ?_
  rintro e w9 ⟨rfl, rfl⟩
  go_wp2_with fail
  refine (equal_same a' n c' a n cap xs _ HI2.out HI.out).mono ?_
  rintro e w10 ⟨rfl, hk⟩
  have HK := hide (HK.out.then hk)
  clear hk HI2
  go_wp2_with fail
  go_ret
  exact ⟨rfl, HK.out⟩
set_option maxHeartbeats 4000000 in
set_option maxRecDepth 100000 in
theorem tells_bad_ge (a : Option Addr) (n cap : Nat) (xs : List Int) (p q : Int) (w : World) (h : Ints w a n xs) (hq : q ≤ 9223372036854775807) (hc0 : chk xs ≠ 0) (hA : 2000 < q) :
    Calls Try.prog 9 #[.slice a n cap, .int .i64 p, .int .i64 q] w fun e w' => e = .returned (.bool true) ∧ Keeps Non w w' := by
  have HG := hide (goR_err (p := p) (q := q) hc0)
  have HG2 := hide (goR_err (p := p) (q := 2000) hc0)
  have HR : Hid (roR xs q = (0, 0, chk xs)) := by simp [Hid, roR, hc0]
  have c1 : (chk xs == 0) = false := by simp [hc0]
  have c2 : (chk xs != 0) = true := by simp [hc0]
  have HF := hide (fun a n cap w h => first_bad a n cap xs w h c2)
  have HO := hide (fun a n cap w h => only_bad a n cap xs w h c2)
  have HCK := hide (fun a n cap w h => check_any a n cap xs w h)
  have HRC := hide (fun a n cap w h => rcheck_any a n cap xs w h)
  have HI := hide h
  clear h hc0
  generalize chk xs = c at *
  go_enter Try.func9, Try.ntmps9
  go_wp2_with fail
  refine (clone_ints a n cap xs _ HI.out).mono ?_
  rintro e w1 ⟨a', c', rfl, hI, hk⟩
  have HI := hide (HI.out.non hk)
  have HI2 := hide hI
  have HK := hide hk
  clear hk hI
  go_wp2_with fail
  refine (HF.out a' n c' _ HI2.out).mono ?_
  rintro e w2 ⟨rfl, hk⟩
  have HI := hide (HI.out.non hk)
  have HI2 := hide (HI2.out.non hk)
  have HK := hide (HK.out.then hk)
  clear hk
  go_wp2_with fail
  refine (HO.out a' n c' _ HI2.out).mono ?_
  rintro e w3 ⟨rfl, rfl⟩
  go_wp2_with fail
  refine (gd_any a' n c' xs p q _ _ _ _ HI2.out HG.out).mono ?_
  rintro e w4 ⟨rfl, hk⟩
  have HI := hide (HI.out.non hk)
  have HI2 := hide (HI2.out.non hk)
  have HK := hide (HK.out.then hk)
  clear hk
  go_wp2_with fail
  refine (rd3 a' n c' xs q _ _ _ _ HI2.out (by omega) HR.out).mono ?_
  rintro e w5 ⟨rfl, hk⟩
  have HI := hide (HI.out.non hk)
  have HI2 := hide (HI2.out.non hk)
  have HK := hide (HK.out.then hk)
  clear hk
  go_wp2_with fail
  refine (HRC.out a n cap _ HI.out).mono ?_
  rintro e w6 ⟨rfl, rfl⟩
  go_wp2_with fail
  refine (rg3 a n cap xs p 2000 _ _ _ _ HI.out HG2.out).mono ?_
  rintro e w7 ⟨rfl, rfl⟩
  go_wp2_with fail
  refine (rr3 a n cap xs q _ _ _ _ HI.out (by omega) HR.out).mono ?_
  rintro e w8 ⟨rfl, hk⟩
  have HI := hide (HI.out.non hk)
  have HI2 := hide (HI2.out.non hk)
  have HK := hide (HK.out.then hk)
  clear hk
  go_wp2_with fail
  refine (HCK.out a' n c' _ HI2.out).mono ?_
  rintro e w9 ⟨rfl, rfl⟩
  go_wp2_with fail
  refine (equal_same a' n c' a n cap xs _ HI2.out HI.out).mono ?_
  rintro e w10 ⟨rfl, hk⟩
  have HK := hide (HK.out.then hk)
  clear hk HI2
  go_wp2_with fail
  go_ret
  exact ⟨rfl, HK.out⟩
theorem tells_any (a : Option Addr) (n cap : Nat) (xs : List Int) (p q : Int) (w : World) (h : Ints w a n xs) (hq : q ≤ 9223372036854775807) :
    Calls Try.prog 9 #[.slice a n cap, .int .i64 p, .int .i64 q] w fun e w' => e = .returned (.bool true) ∧ Keeps Non w w' := by
  by_cases hc : chk xs = 0
  · by_cases hx : xs = []
    · subst hx
      obtain rfl : n = 0 := h.len.symm
      by_cases h0 : q < 0
      · exact tells_nil_neg a cap p q w h hq (by omega) h0
      · by_cases hA : q ≤ 2000
        · by_cases hp : p < 0 ∨ 1000 ≤ p
          · exact tells_nil_lt_bad a cap p q w h hq hA hp (by omega)
          · exact tells_nil_lt_ok a cap p q w h hq hA (by omega) (by omega) (by omega)
        · by_cases hp : p < 0 ∨ 1000 ≤ p
          · exact tells_nil_ge_bad a cap p q w h hq (by omega) hp
          · exact tells_nil_ge_ok a cap p q w h hq (by omega) (by omega) (by omega)
    · by_cases hA : q ≤ 2000
      · exact tells_some_lt a n cap xs p q w h hq hc hx hA
      · exact tells_some_ge a n cap xs p q w h hq hc hx (by omega)
  · by_cases hA : q ≤ 2000
    · exact tells_bad_lt a n cap xs p q w h hq hc hA
    · exact tells_bad_ge a n cap xs p q w h hq hc (by omega)
theorem tells_row (a : Option Addr) (n cap : Nat) (zs : List Int) (p q : Int) (w : World) (h : IsRow .i64 w a n cap zs) (hn : n ≤ 100) (hq : q ≤ 9223372036854775807) :
    Calls Try.prog 9 #[.slice a n cap, .int .i64 p, .int .i64 q] w fun e w' => e = .returned (.bool true) ∧ Keeps Non w w' :=
  tells_any a n cap (zs.take n) p q w (ints_of_row h (by omega)) hq
theorem law_tells (a : Option Addr) (n cap : Nat) (zs : List Int) (p q : Int) (w : World) (h : IsRow .i64 w a n cap zs) (hq : q ≤ 9223372036854775807) :
    Calls Try.prog 3 #[.slice a n cap, .int .i64 p, .int .i64 q] w fun e w' => e = .returned (.bool true) ∧ Keeps Non w w' := by
  have hr := h.room
  by_cases hn : n ≤ 100
  · have HT := hide (tells_row a n cap zs p q w h hn hq)
    have g1 : ¬ (100 : Int) < (n : Int) := by omega
    have g2 : decide ((100 : Int) < (n : Int)) = false := by simp; omega
    clear h
    go_enter Try.func3, Try.ntmps3
    go_wp2_with fail
    refine HT.out.mono ?_
    rintro e w1 ⟨rfl, hk⟩
    have HK := hide hk
    clear hk
    go_wp2_with (first | (go_at_call 10; refine (awake_any _).mono ?_; rintro e w' ⟨rfl, hk⟩))
    go_ret
    exact ⟨rfl, HK.out.then (by assumption)⟩
  · have g1 : (100 : Int) < (n : Int) := by omega
    have g2 : decide ((100 : Int) < (n : Int)) = true := by simp; omega
    clear h
    go_enter Try.func3, Try.ntmps3
    go_wp2_with (first | (go_at_call 10; refine (awake_any _).mono ?_; rintro e w' ⟨rfl, hk⟩))
    go_ret
    exact ⟨rfl, by assumption⟩

end Go.Proofs.Ytbgcglgbaekfeaa
