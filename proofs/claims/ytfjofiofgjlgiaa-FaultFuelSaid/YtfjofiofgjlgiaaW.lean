/-
  The walk over FaultFuel: the law. No condition.
-/
import Derived.Test.YtfjofiofgjlgiaaV
namespace Go.Proofs.Ytfjofiofgjlgiaa
open Go.RowKit
attribute [local go_sem] onto_cell onto_frozen
set_option maxHeartbeats 8000000 in
set_option maxRecDepth 100000 in
theorem law_fuel (fu : Int) (a : Option Addr) (n cap : Nat) (zs : List Int) (w : World) (h : Byts w a n zs) (hr : n ≤ cap ∧ cap ≤ 9223372036854775807) (h0 : a = none → cap = 0) (hf0 : 0 ≤ fu) (hf1 : fu ≤ 255) :
    Calls Try.prog 7 #[.int .u8 fu, .slice a n cap] w fun e w' => e = .returned (.bool true) ∧ Keeps Non w w' := by
  have hmf : ∀ (fn : Fn) (first cap : Array Value) (w : World), (Instr.makeFunc fn first cap).run Try.prog w = .ok (.func fn first cap) w := fun _ _ _ _ => rfl
  have q47 : ∀ b w, (binOp .eql 47 (.pointer (some ⟨b, 0, none⟩)) (.pointer none)).run Try.prog w = .ok (.bool false) w := fun _ _ => by kernel_rfl
  have t3 := neS
  have hbig := h.big
  obtain ⟨r1, r2⟩ := hr
  have HB := hide h
  clear h
  cases a with
  | none =>
    have : cap = 0 := h0 rfl
    subst this
    have : n = 0 := by omega
    subst this
    go_enter Try.func7, Try.ntmps7
    go_wp2_with fail
    refine (new_ok (fu % 201) _ (by omega) (by omega)).mono ?_
    rintro e w1 ⟨rfl, hm, hk, hlt1⟩
    have HM := hide (hm)
    have HK := hide hk
    clear hm hk
    go_wp2_with fail
    obtain ⟨W0, hW0⟩ : ∃ W0, w1.alloc (.cells #[.pointer (some ⟨w.heap.size, 0, none⟩)] 47) = W0 := ⟨_, rfl⟩
    have HM0 : Hid (Mtr W0 w.heap.size (fu % 201) (fu % 201) 0) := by rw [← hW0]; exact Blk.alloc HM.out _
    have HP0 : Hid (Blk W0 w1.heap.size [.pointer (some ⟨w.heap.size, 0, none⟩)] 47) := by rw [← hW0]; exact Blk.new w1 _ _
    have HK0 : Hid (Keeps Non w W0) := by rw [← hW0]; exact HK.out.alloc _
    rw [hW0]
    clear hW0 HM HK
    go_loopw [37, 8, 9] (fun i lv uv wr => ∃ k : Nat, ∃ l u : Int, k ≤ 0 ∧ i = .int .i64 k ∧ lv = .int .i64 l ∧ uv = .int .i64 u ∧ 0 ≤ l ∧ l ≤ (fu % 201) ∧ 0 ≤ u ∧ u ≤ 40 * k ∧ Hid (Mtr wr w.heap.size (fu % 201) l u) ∧ Hid (Blk wr w1.heap.size [.pointer (some ⟨w.heap.size, 0, none⟩)] 47) ∧ Hid (Keeps Non w wr)) (fun i _ _ _ => 0 - (intOf i).toNat)
    case atStart => exact ⟨0, (fu % 201), 0, by omega, rfl, rfl, rfl, by omega, by omega, by omega, by omega, HM0.out, HP0.out, HK0.out⟩
    case round =>
      obtain ⟨k, l, u, hk, rfl, rfl, rfl, hl0, hl1, hu0, hu1, hM, hP, hK⟩ := hrel
      have lp := Blk.lt hP.out
      have lm := Blk.lt hM.out
      have p0 : wr.cell? ⟨w1.heap.size, 0, none⟩ = some (.pointer (some ⟨w.heap.size, 0, none⟩)) := hP.out.cell 0
      by_cases hlt : k < 0
      · omega
      · go_wp2_with (first | (go_at_call 30; refine (use_arg _ _ _ _ _ _ hM.out (by decide)).mono ?_; rintro e w' ⟨rfl, rfl⟩) | (go_at_call 31; refine (left_any _ _ _ _ _ hM.out).mono ?_; rintro e w' ⟨rfl, rfl⟩) | (go_at_call 18; refine (awake_any _).mono ?_; rintro e w' ⟨rfl, hk⟩))
        go_ret
        exact ⟨rfl, hK.out.then (by assumption)⟩
  | some ad =>
    by_cases h60 : (60 : Int) < (n : Int)
    · go_enter Try.func7, Try.ntmps7
      go_wp2_with fail
      refine (new_ok (fu % 201) _ (by omega) (by omega)).mono ?_
      rintro e w1 ⟨rfl, hm, hk, hlt1⟩
      have HM := hide (hm)
      have HK := hide hk
      clear hm hk
      go_wp2_with fail
      obtain ⟨W0, hW0⟩ : ∃ W0, w1.alloc (.cells #[.pointer (some ⟨w.heap.size, 0, none⟩)] 47) = W0 := ⟨_, rfl⟩
      have HM0 : Hid (Mtr W0 w.heap.size (fu % 201) (fu % 201) 0) := by rw [← hW0]; exact Blk.alloc HM.out _
      have HP0 : Hid (Blk W0 w1.heap.size [.pointer (some ⟨w.heap.size, 0, none⟩)] 47) := by rw [← hW0]; exact Blk.new w1 _ _
      have HK0 : Hid (Keeps Non w W0) := by rw [← hW0]; exact HK.out.alloc _
      rw [hW0]
      clear hW0 HM HK
      go_loopw [37, 8, 9] (fun i lv uv wr => ∃ k : Nat, ∃ l u : Int, k ≤ 60 ∧ i = .int .i64 k ∧ lv = .int .i64 l ∧ uv = .int .i64 u ∧ 0 ≤ l ∧ l ≤ (fu % 201) ∧ 0 ≤ u ∧ u ≤ 40 * k ∧ Hid (Mtr wr w.heap.size (fu % 201) l u) ∧ Hid (Blk wr w1.heap.size [.pointer (some ⟨w.heap.size, 0, none⟩)] 47) ∧ Hid (Keeps Non w wr)) (fun i _ _ _ => 60 - (intOf i).toNat)
      case atStart => exact ⟨0, (fu % 201), 0, by omega, rfl, rfl, rfl, by omega, by omega, by omega, by omega, HM0.out, HP0.out, HK0.out⟩
      case round =>
        obtain ⟨k, l, u, hk, rfl, rfl, rfl, hl0, hl1, hu0, hu1, hM, hP, hK⟩ := hrel
        have lp := Blk.lt hP.out
        have lm := Blk.lt hM.out
        have p0 : wr.cell? ⟨w1.heap.size, 0, none⟩ = some (.pointer (some ⟨w.heap.size, 0, none⟩)) := hP.out.cell 0
        by_cases hlt : k < 60
        · obtain ⟨b, off, hab, hb, hc⟩ := (HB.out.non hK.out).at (by omega)
          cases hab
          have ck := hc k (by omega)
          have hbd := HB.out.bd k
          obtain ⟨x, hx⟩ : ∃ x, zs.getD k 0 = x := ⟨_, rfl⟩
          rw [hx] at ck hbd
          obtain ⟨hb0, hb1⟩ := hbd
          have hkn : (k : Int) < (n : Int) := by omega
          clear hx hc
          by_cases h240 : 240 ≤ x
          · go_wp2_with fail
            refine (fill_any _ _ _ _ _ hM.out).mono ?_
            rintro e w2 ⟨rfl, hm, hk2⟩
            have HM2 := hide hm
            have HP2 := hide (hP.out.keeps hk2 (by omega))
            have HK2 := hide (hK.out.trans hk2 (by intro i hi e; omega))
            clear hm hk2 p0
            go_wp2
            go_roundw
            case rel => exact ⟨k + 1, (fu % 201), u, by omega, by go_num, rfl, rfl, by omega, by omega, by omega, by omega, HM2.out, HP2.out, HK2.out⟩
            case measure => simp [intOf]; omega
          · obtain ⟨W2, hW2⟩ : ∃ W2, wr.alloc (.cells #[.int .i64 (1 + x % 40)] 3) = W2 := ⟨_, rfl⟩
            have HM2 : Hid (Mtr W2 w.heap.size (fu % 201) l u) := by rw [← hW2]; exact Blk.alloc hM.out _
            have HP2 : Hid (Blk W2 w1.heap.size [.pointer (some ⟨w.heap.size, 0, none⟩)] 47) := by rw [← hW2]; exact hP.out.alloc _
            have HX2 : Hid (Blk W2 wr.heap.size [.int .i64 (1 + x % 40)] 3) := by rw [← hW2]; exact Blk.new wr _ _
            have HK2 : Hid (Keeps Non w W2) := by rw [← hW2]; exact hK.out.alloc _
            have hW2 := hide hW2
            by_cases hfit : 1 + x % 40 ≤ l
            · have HC := hide (c29_ok _ _ _ _ l u (1 + x % 40) W2 HP2.out HX2.out HM2.out (by omega) hfit (by omega) hu0 (by omega))
              go_wp2_with fail
              try rw [hW2.out]
              refine HC.out.mono ?_
              rintro e w3 ⟨rfl, hk3, hm3⟩
              have HM3 := hide hm3
              have HP3 := hide (HP2.out.keeps hk3 (by omega))
              have HX3 := hide (HX2.out.keeps hk3 (by omega))
              have HK3 := hide (HK2.out.trans hk3 (by intro i hi e; omega))
              clear hk3 hm3
              have x3 : w3.cell? ⟨wr.heap.size, 0, none⟩ = some (.int .i64 (1 + x % 40)) := HX3.out.cell 0
              have p3 : w3.cell? ⟨w1.heap.size, 0, none⟩ = some (.pointer (some ⟨w.heap.size, 0, none⟩)) := HP3.out.cell 0
              have lx3 := Blk.lt HX3.out
              have lp3 := Blk.lt HP3.out
              clear p0 HC
              go_wp2_with fail
              obtain ⟨W4, hW4⟩ : ∃ W4, w3.alloc (.cells #[.int .u8 0, .int .i64 0] 23) = W4 := ⟨_, rfl⟩
              have HM4 : Hid (Mtr W4 w.heap.size (fu % 201) (l - (1 + x % 40)) (u + (1 + x % 40))) := by rw [← hW4]; exact Blk.alloc HM3.out _
              have HP4 : Hid (Blk W4 w1.heap.size [.pointer (some ⟨w.heap.size, 0, none⟩)] 47) := by rw [← hW4]; exact Blk.alloc HP3.out _
              have HX4 : Hid (Blk W4 wr.heap.size [.int .i64 (1 + x % 40)] 3) := by rw [← hW4]; exact Blk.alloc HX3.out _
              have HK4 : Hid (Keeps Non w W4) := by rw [← hW4]; exact HK3.out.alloc _
              rw [hW4]
              clear hW4
              have x4 : W4.cell? ⟨wr.heap.size, 0, none⟩ = some (.int .i64 (1 + x % 40)) := HX4.out.cell 0
              have lx4 := Blk.lt HX4.out
              clear x3 p3 lx3 lp3
              refine wp_region_onto (by kernel_rfl) (by kernel_rfl) ?_
              repeat (go_big_quiet_step (fail))
              refine wpQuiet_nil ?_
              rintro _ ⟨u5, rfl⟩
              have K5 : Keeps Non W4 (onto W4 u5) := onto_keeps _ _
              generalize onto W4 u5 = w5 at K5
              have HM6 := hide (Blk.keeps HM4.out K5 id)
              have HP6 := hide (Blk.keeps HP4.out K5 id)
              have HK6 := hide (HK4.out.then K5)
              have p6 : w5.cell? ⟨w1.heap.size, 0, none⟩ = some (.pointer (some ⟨w.heap.size, 0, none⟩)) := HP6.out.cell 0
              clear K5 x4
              go_wp2_with (first | (go_at_call 31; refine (left_any _ _ _ _ _ HM6.out).mono ?_; rintro e w' ⟨rfl, rfl⟩) | (go_at_call 32; refine (used_any _ _ _ _ _ HM6.out).mono ?_; rintro e w' ⟨rfl, rfl⟩))
              go_roundw
              case rel => exact ⟨k + 1, l - (1 + x % 40), u + (1 + x % 40), by omega, by go_num, rfl, rfl, by omega, by omega, by omega, by omega, HM6.out, HP6.out, HK6.out⟩
              case measure => simp [intOf]; omega
            · have hfit2 : l < 1 + x % 40 := by omega
              have HC := hide (c29_no _ _ _ _ l u (1 + x % 40) W2 HP2.out HX2.out HM2.out (by omega) hfit2)
              go_wp2_with fail
              try rw [hW2.out]
              refine HC.out.mono ?_
              rintro e w3 ⟨rfl, hk3⟩
              have HM3 := hide (Blk.keeps HM2.out hk3 id)
              have HP3 := hide (HP2.out.keeps hk3 id)
              have HX3 := hide (HX2.out.keeps hk3 id)
              have HK3 := hide (HK2.out.then hk3)
              clear hk3
              have x3 : w3.cell? ⟨wr.heap.size, 0, none⟩ = some (.int .i64 (1 + x % 40)) := HX3.out.cell 0
              have p3 : w3.cell? ⟨w1.heap.size, 0, none⟩ = some (.pointer (some ⟨w.heap.size, 0, none⟩)) := HP3.out.cell 0
              have lx3 := Blk.lt HX3.out
              have lp3 := Blk.lt HP3.out
              clear p0 HC
              go_wp2_with fail
              obtain ⟨W4, hW4⟩ : ∃ W4, w3.alloc (.cells #[.int .u8 1, .int .i64 (1 + x % 40)] 23) = W4 := ⟨_, rfl⟩
              have HM4 : Hid (Mtr W4 w.heap.size (fu % 201) l u) := by rw [← hW4]; exact Blk.alloc HM3.out _
              have HP4 : Hid (Blk W4 w1.heap.size [.pointer (some ⟨w.heap.size, 0, none⟩)] 47) := by rw [← hW4]; exact Blk.alloc HP3.out _
              have HX4 : Hid (Blk W4 wr.heap.size [.int .i64 (1 + x % 40)] 3) := by rw [← hW4]; exact Blk.alloc HX3.out _
              have HK4 : Hid (Keeps Non w W4) := by rw [← hW4]; exact HK3.out.alloc _
              rw [hW4]
              clear hW4
              have p4 : W4.cell? ⟨w1.heap.size, 0, none⟩ = some (.pointer (some ⟨w.heap.size, 0, none⟩)) := HP4.out.cell 0
              clear x3 p3 lx3 lp3
              refine (left_any _ _ _ _ _ HM4.out).mono ?_
              rintro e w' ⟨rfl, rfl⟩
              go_wp2_with (first | (go_at_call 32; refine (used_any _ _ _ _ _ HM4.out).mono ?_; rintro e w' ⟨rfl, rfl⟩))
              go_roundw
              case rel => exact ⟨k + 1, l, u, by omega, by go_num, rfl, rfl, by omega, by omega, by omega, by omega, HM4.out, HP4.out, HK4.out⟩
              case measure => simp [intOf]; omega
        · go_wp2_with (first | (go_at_call 30; refine (use_arg _ _ _ _ _ _ hM.out (by decide)).mono ?_; rintro e w' ⟨rfl, rfl⟩) | (go_at_call 31; refine (left_any _ _ _ _ _ hM.out).mono ?_; rintro e w' ⟨rfl, rfl⟩) | (go_at_call 18; refine (awake_any _).mono ?_; rintro e w' ⟨rfl, hk⟩))
          go_ret
          exact ⟨rfl, hK.out.then (by assumption)⟩
    · go_enter Try.func7, Try.ntmps7
      go_wp2_with fail
      refine (new_ok (fu % 201) _ (by omega) (by omega)).mono ?_
      rintro e w1 ⟨rfl, hm, hk, hlt1⟩
      have HM := hide (hm)
      have HK := hide hk
      clear hm hk
      go_wp2_with fail
      all_goals
        obtain ⟨W0, hW0⟩ : ∃ W0, w1.alloc (.cells #[.pointer (some ⟨w.heap.size, 0, none⟩)] 47) = W0 := ⟨_, rfl⟩
        have HM0 : Hid (Mtr W0 w.heap.size (fu % 201) (fu % 201) 0) := by rw [← hW0]; exact Blk.alloc HM.out _
        have HP0 : Hid (Blk W0 w1.heap.size [.pointer (some ⟨w.heap.size, 0, none⟩)] 47) := by rw [← hW0]; exact Blk.new w1 _ _
        have HK0 : Hid (Keeps Non w W0) := by rw [← hW0]; exact HK.out.alloc _
        rw [hW0]
        clear hW0 HM HK
        go_loopw [37, 8, 9] (fun i lv uv wr => ∃ k : Nat, ∃ l u : Int, k ≤ n ∧ i = .int .i64 k ∧ lv = .int .i64 l ∧ uv = .int .i64 u ∧ 0 ≤ l ∧ l ≤ (fu % 201) ∧ 0 ≤ u ∧ u ≤ 40 * k ∧ Hid (Mtr wr w.heap.size (fu % 201) l u) ∧ Hid (Blk wr w1.heap.size [.pointer (some ⟨w.heap.size, 0, none⟩)] 47) ∧ Hid (Keeps Non w wr)) (fun i _ _ _ => n - (intOf i).toNat)
        case atStart => exact ⟨0, (fu % 201), 0, by omega, rfl, rfl, rfl, by omega, by omega, by omega, by omega, HM0.out, HP0.out, HK0.out⟩
        case round =>
          obtain ⟨k, l, u, hk, rfl, rfl, rfl, hl0, hl1, hu0, hu1, hM, hP, hK⟩ := hrel
          have lp := Blk.lt hP.out
          have lm := Blk.lt hM.out
          have p0 : wr.cell? ⟨w1.heap.size, 0, none⟩ = some (.pointer (some ⟨w.heap.size, 0, none⟩)) := hP.out.cell 0
          by_cases hlt : k < n
          · obtain ⟨b, off, hab, hb, hc⟩ := (HB.out.non hK.out).at (by omega)
            cases hab
            have ck := hc k (by omega)
            have hbd := HB.out.bd k
            obtain ⟨x, hx⟩ : ∃ x, zs.getD k 0 = x := ⟨_, rfl⟩
            rw [hx] at ck hbd
            obtain ⟨hb0, hb1⟩ := hbd
            have hkn : (k : Int) < (n : Int) := by omega
            clear hx hc
            by_cases h240 : 240 ≤ x
            · go_wp2_with fail
              refine (fill_any _ _ _ _ _ hM.out).mono ?_
              rintro e w2 ⟨rfl, hm, hk2⟩
              have HM2 := hide hm
              have HP2 := hide (hP.out.keeps hk2 (by omega))
              have HK2 := hide (hK.out.trans hk2 (by intro i hi e; omega))
              clear hm hk2 p0
              go_wp2
              go_roundw
              case rel => exact ⟨k + 1, (fu % 201), u, by omega, by go_num, rfl, rfl, by omega, by omega, by omega, by omega, HM2.out, HP2.out, HK2.out⟩
              case measure => simp [intOf]; omega
            · obtain ⟨W2, hW2⟩ : ∃ W2, wr.alloc (.cells #[.int .i64 (1 + x % 40)] 3) = W2 := ⟨_, rfl⟩
              have HM2 : Hid (Mtr W2 w.heap.size (fu % 201) l u) := by rw [← hW2]; exact Blk.alloc hM.out _
              have HP2 : Hid (Blk W2 w1.heap.size [.pointer (some ⟨w.heap.size, 0, none⟩)] 47) := by rw [← hW2]; exact hP.out.alloc _
              have HX2 : Hid (Blk W2 wr.heap.size [.int .i64 (1 + x % 40)] 3) := by rw [← hW2]; exact Blk.new wr _ _
              have HK2 : Hid (Keeps Non w W2) := by rw [← hW2]; exact hK.out.alloc _
              have hW2 := hide hW2
              by_cases hfit : 1 + x % 40 ≤ l
              · have HC := hide (c29_ok _ _ _ _ l u (1 + x % 40) W2 HP2.out HX2.out HM2.out (by omega) hfit (by omega) hu0 (by omega))
                go_wp2_with fail
                try rw [hW2.out]
                refine HC.out.mono ?_
                rintro e w3 ⟨rfl, hk3, hm3⟩
                have HM3 := hide hm3
                have HP3 := hide (HP2.out.keeps hk3 (by omega))
                have HX3 := hide (HX2.out.keeps hk3 (by omega))
                have HK3 := hide (HK2.out.trans hk3 (by intro i hi e; omega))
                clear hk3 hm3
                have x3 : w3.cell? ⟨wr.heap.size, 0, none⟩ = some (.int .i64 (1 + x % 40)) := HX3.out.cell 0
                have p3 : w3.cell? ⟨w1.heap.size, 0, none⟩ = some (.pointer (some ⟨w.heap.size, 0, none⟩)) := HP3.out.cell 0
                have lx3 := Blk.lt HX3.out
                have lp3 := Blk.lt HP3.out
                clear p0 HC
                go_wp2_with fail
                obtain ⟨W4, hW4⟩ : ∃ W4, w3.alloc (.cells #[.int .u8 0, .int .i64 0] 23) = W4 := ⟨_, rfl⟩
                have HM4 : Hid (Mtr W4 w.heap.size (fu % 201) (l - (1 + x % 40)) (u + (1 + x % 40))) := by rw [← hW4]; exact Blk.alloc HM3.out _
                have HP4 : Hid (Blk W4 w1.heap.size [.pointer (some ⟨w.heap.size, 0, none⟩)] 47) := by rw [← hW4]; exact Blk.alloc HP3.out _
                have HX4 : Hid (Blk W4 wr.heap.size [.int .i64 (1 + x % 40)] 3) := by rw [← hW4]; exact Blk.alloc HX3.out _
                have HK4 : Hid (Keeps Non w W4) := by rw [← hW4]; exact HK3.out.alloc _
                rw [hW4]
                clear hW4
                have x4 : W4.cell? ⟨wr.heap.size, 0, none⟩ = some (.int .i64 (1 + x % 40)) := HX4.out.cell 0
                have lx4 := Blk.lt HX4.out
                clear x3 p3 lx3 lp3
                refine wp_region_onto (by kernel_rfl) (by kernel_rfl) ?_
                repeat (go_big_quiet_step (fail))
                refine wpQuiet_nil ?_
                rintro _ ⟨u5, rfl⟩
                have K5 : Keeps Non W4 (onto W4 u5) := onto_keeps _ _
                generalize onto W4 u5 = w5 at K5
                have HM6 := hide (Blk.keeps HM4.out K5 id)
                have HP6 := hide (Blk.keeps HP4.out K5 id)
                have HK6 := hide (HK4.out.then K5)
                have p6 : w5.cell? ⟨w1.heap.size, 0, none⟩ = some (.pointer (some ⟨w.heap.size, 0, none⟩)) := HP6.out.cell 0
                clear K5 x4
                go_wp2_with (first | (go_at_call 31; refine (left_any _ _ _ _ _ HM6.out).mono ?_; rintro e w' ⟨rfl, rfl⟩) | (go_at_call 32; refine (used_any _ _ _ _ _ HM6.out).mono ?_; rintro e w' ⟨rfl, rfl⟩))
                go_roundw
                case rel => exact ⟨k + 1, l - (1 + x % 40), u + (1 + x % 40), by omega, by go_num, rfl, rfl, by omega, by omega, by omega, by omega, HM6.out, HP6.out, HK6.out⟩
                case measure => simp [intOf]; omega
              · have hfit2 : l < 1 + x % 40 := by omega
                have HC := hide (c29_no _ _ _ _ l u (1 + x % 40) W2 HP2.out HX2.out HM2.out (by omega) hfit2)
                go_wp2_with fail
                try rw [hW2.out]
                refine HC.out.mono ?_
                rintro e w3 ⟨rfl, hk3⟩
                have HM3 := hide (Blk.keeps HM2.out hk3 id)
                have HP3 := hide (HP2.out.keeps hk3 id)
                have HX3 := hide (HX2.out.keeps hk3 id)
                have HK3 := hide (HK2.out.then hk3)
                clear hk3
                have x3 : w3.cell? ⟨wr.heap.size, 0, none⟩ = some (.int .i64 (1 + x % 40)) := HX3.out.cell 0
                have p3 : w3.cell? ⟨w1.heap.size, 0, none⟩ = some (.pointer (some ⟨w.heap.size, 0, none⟩)) := HP3.out.cell 0
                have lx3 := Blk.lt HX3.out
                have lp3 := Blk.lt HP3.out
                clear p0 HC
                go_wp2_with fail
                obtain ⟨W4, hW4⟩ : ∃ W4, w3.alloc (.cells #[.int .u8 1, .int .i64 (1 + x % 40)] 23) = W4 := ⟨_, rfl⟩
                have HM4 : Hid (Mtr W4 w.heap.size (fu % 201) l u) := by rw [← hW4]; exact Blk.alloc HM3.out _
                have HP4 : Hid (Blk W4 w1.heap.size [.pointer (some ⟨w.heap.size, 0, none⟩)] 47) := by rw [← hW4]; exact Blk.alloc HP3.out _
                have HX4 : Hid (Blk W4 wr.heap.size [.int .i64 (1 + x % 40)] 3) := by rw [← hW4]; exact Blk.alloc HX3.out _
                have HK4 : Hid (Keeps Non w W4) := by rw [← hW4]; exact HK3.out.alloc _
                rw [hW4]
                clear hW4
                have p4 : W4.cell? ⟨w1.heap.size, 0, none⟩ = some (.pointer (some ⟨w.heap.size, 0, none⟩)) := HP4.out.cell 0
                clear x3 p3 lx3 lp3
                refine (left_any _ _ _ _ _ HM4.out).mono ?_
                rintro e w' ⟨rfl, rfl⟩
                go_wp2_with (first | (go_at_call 32; refine (used_any _ _ _ _ _ HM4.out).mono ?_; rintro e w' ⟨rfl, rfl⟩))
                go_roundw
                case rel => exact ⟨k + 1, l, u, by omega, by go_num, rfl, rfl, by omega, by omega, by omega, by omega, HM4.out, HP4.out, HK4.out⟩
                case measure => simp [intOf]; omega
          · go_wp2_with (first | (go_at_call 30; refine (use_arg _ _ _ _ _ _ hM.out (by decide)).mono ?_; rintro e w' ⟨rfl, rfl⟩) | (go_at_call 31; refine (left_any _ _ _ _ _ hM.out).mono ?_; rintro e w' ⟨rfl, rfl⟩) | (go_at_call 18; refine (awake_any _).mono ?_; rintro e w' ⟨rfl, hk⟩))
            go_ret
            exact ⟨rfl, hK.out.then (by assumption)⟩
end Go.Proofs.Ytfjofiofgjlgiaa
