/-
  The walk over TimerLeast, where there is no timeout; the law. No condition.
-/
import Derived.Test.YtbgcglgbaekfeaaN
namespace Go.Proofs.Ytbgcglgbaekfeaa
open Go.RowKit
attribute [local go_sem] onto_cell onto_frozen
theorem new_nil (a : Option Addr) (n cap : Nat) (w : World) (h : Ints w a n []) :
    Calls Try.prog 14 #[.slice a n cap] w fun e w' => ∃ b, e = .returned (.tuple #[.pointer (some ⟨b, 0, none⟩), .int .i64 0]) ∧ w.heap.size ≤ b ∧ Tim w' b (-1) 0 0 false ∧ Keeps Non w w' :=
  new_ok a n cap [] w h (by decide)
set_option maxHeartbeats 8000000 in
set_option maxRecDepth 100000 in
theorem least_nil_walk (a : Option Addr) (n cap : Nat) (q : Int) (w : World)
    (hm : Calls Try.prog 11 #[.slice a n cap] w fun e w' => ∃ a' n' c', e = .returned (.slice a' n' c') ∧ Ints w' a' n' [] ∧ Keeps Non w w') (hq0 : 0 ≤ q) (hq1 : q ≤ 255) :
    Calls Try.prog 4 #[.slice a n cap, .int .u8 q] w fun e w' => e = .returned (.bool true) ∧ Keeps Non w w' := by
  have q32 := eq32
  have HC := hide hm
  clear hm
  go_enter Try.func4, Try.ntmps4
  go_wp2_with fail
  refine HC.out.mono ?_
  rintro e w1 ⟨a', n', c', rfl, hI, hk⟩
  obtain rfl : n' = 0 := hI.len.symm
  have HI := hide hI
  have HK := hide hk
  clear hk hI HC
  go_wp2_with fail
  refine (first_nil a' _ c' _ HI.out).mono ?_
  rintro e w2 ⟨rfl, hk⟩
  have HI := hide (HI.out.non hk)
  have HK := hide (HK.out.then hk)
  clear hk
  go_wp2_with fail
  refine (only_nil a' _ c' _ HI.out).mono ?_
  rintro e w3 ⟨a2, c2, rfl, hI2, hk⟩
  have HI := hide (HI.out.non hk)
  have HI2 := hide hI2
  have HK := hide (HK.out.then hk)
  clear hk hI2
  go_wp2_with fail
  refine (new_nil a' _ c' _ HI.out).mono ?_
  rintro e w4 ⟨b, rfl, hb, hT, hk⟩
  have HI2 := hide (HI2.out.non hk)
  have HB := hide (Nat.le_trans HK.out.size hb)
  have HK := hide (HK.out.then hk)
  have HT := hide hT
  have HBL := hide (Blk.lt hT)
  clear hk hT hb
  go_wp2_with fail
  refine (new_nil a2 _ c2 _ HI2.out).mono ?_
  rintro e w5 ⟨b2, rfl, hb, hT, hk⟩
  have HB2 := hide (Nat.le_trans HK.out.size hb)
  have HBN : Hid (b ≠ b2) := by have := HBL.out; unfold Hid; omega
  have HK := hide (HK.out.then hk)
  have HT1 := hide (Blk.keeps HT.out hk id)
  have HT2 := hide hT
  clear hk hT hb HBL HT
  go_wp2_with fail
  refine wp_region_onto (by kernel_rfl) (by kernel_rfl) ?_
  repeat (go_big_quiet_step (fail))
  refine wpQuiet_nil ?_
  rintro _ ⟨u, rfl⟩
  have K6 : Keeps Non w5 (onto w5 u) := onto_keeps _ _
  generalize onto w5 u = w6 at K6
  have HK := hide (HK.out.then K6)
  have HT1 := hide (Blk.keeps HT1.out K6 id)
  have HT2 := hide (Blk.keeps HT2.out K6 id)
  clear K6
  go_wp2_with fail
  go_loop [105] (fun i => i = .int .i64 0) (fun i => 1)
  case atStart => rfl
  case round =>
    obtain rfl := hrel
    go_wp2_with fail
    go_loopw [132] (fun i wr => ∃ k : Int, 0 ≤ k ∧ k ≤ q % 41 ∧ i = .int .u8 k ∧ Hid (Tim wr b (-1) 0 k false) ∧ Hid (Tim wr b2 (-1) 0 k false) ∧ Hid (Keeps Non w wr)) (fun i _ => (q % 41).toNat - (intOf i).toNat)
    case atStart => exact ⟨0, by omega, by omega, rfl, HT1.out, HT2.out, HK.out⟩
    case round =>
      obtain ⟨k, hk0, hkq, rfl, hTA, hTB, hK⟩ := hrel
      by_cases hlt2 : k < q % 41
      · go_wp2_with fail
        refine (tick_none b _ _ k _ hTA.out (by decide) hk0 (by omega)).mono ?_
        rintro e vA ⟨rfl, hk, hT⟩
        have hTA2 := hide hT
        have hTB1 := hide (hTB.out.past hk HBN.out.symm)
        have hK1 := hide (hK.out.trans hk (by intro i hi e; have := HB.out; omega))
        clear hk hT
        go_wp2_with fail
        refine (tick_none b2 _ _ k _ hTB1.out (by decide) hk0 (by omega)).mono ?_
        rintro e vB ⟨rfl, hk, hT⟩
        have hTB2 := hide hT
        have hTA2 := hide (hTA2.out.past hk HBN.out)
        have hK2 := hide (hK1.out.trans hk (by intro i hi e; have := HB2.out; omega))
        clear hk hT
        go_wp2_with fail
        refine (left_none b _ _ _ _ false hTA2.out (.inl (by decide))).mono ?_
        rintro e vC ⟨rfl, hk⟩
        have hTA3 := hide (Blk.keeps hTA2.out hk id)
        have hTB3 := hide (Blk.keeps hTB2.out hk id)
        have hK3 := hide (hK2.out.then hk)
        clear hk
        go_wp2_with fail
        refine (left_none b2 _ _ _ _ false hTB3.out (.inl (by decide))).mono ?_
        rintro e vD ⟨rfl, hk⟩
        have hTA4 := hide (Blk.keeps hTA3.out hk id)
        have hTB4 := hide (Blk.keeps hTB3.out hk id)
        have hK4 := hide (hK3.out.then hk)
        clear hk
        go_wp2_with fail
        refine (at_any b _ _ _ _ _ hTA4.out).mono ?_
        rintro e vE ⟨rfl, rfl⟩
        go_wp2_with fail
        refine (at_any b2 _ _ _ _ _ hTB4.out).mono ?_
        rintro e vF ⟨rfl, rfl⟩
        go_wp2_with fail
        refine (fired_any b _ _ _ _ _ hTA4.out).mono ?_
        rintro e vG ⟨rfl, rfl⟩
        go_wp2_with fail
        refine (fired_any b2 _ _ _ _ _ hTB4.out).mono ?_
        rintro e vH ⟨rfl, rfl⟩
        go_wp2
        go_roundw
        case rel => exact ⟨k + 1, by omega, by omega, by go_num, hTA4.out, hTB4.out, hK4.out⟩
        case measure => simp [intOf]; omega
      · go_wp2_with (first | (go_at_call 10; refine (awake_any _).mono ?_; rintro e w' ⟨rfl, hk⟩))
        go_ret
        exact ⟨rfl, hK.out.then (by assumption)⟩
theorem law_least (a : Option Addr) (n cap : Nat) (zs : List Int) (q : Int) (w : World) (h : Byts w a n zs) (hr : n ≤ cap ∧ cap ≤ 9223372036854775807) (h0 : a = none → cap = 0) (hq0 : 0 ≤ q) (hq1 : q ≤ 255) :
    Calls Try.prog 4 #[.slice a n cap, .int .u8 q] w fun e w' => e = .returned (.bool true) ∧ Keeps Non w w' := by
  have hm := made_any a n cap zs w h hr h0
  by_cases hx : made zs = []
  · rw [hx] at hm
    exact least_nil_walk a n cap q w hm hq0 hq1
  · exact least_some_walk a n cap (made zs) q w hm (made_chk zs) hx hq0 hq1
end Go.Proofs.Ytbgcglgbaekfeaa
