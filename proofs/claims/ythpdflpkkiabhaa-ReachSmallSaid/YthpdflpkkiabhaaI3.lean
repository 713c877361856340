/-
  ContainsFunc with a function value that bears three pointers; ReachFinds' own. No condition.
-/
import Derived.Test.YthpdflpkkiabhaaPg
import Derived.Test.YthpdflpkkiabhaaMa
namespace Go.Proofs.Ythpdflpkkiabhaa
open Go.RowKit
attribute [local go_sem] onto_cell onto_frozen
set_option linter.unusedVariables false
set_option maxHeartbeats 1000000 in
theorem index_int3 (a : Option Addr) (n cap : Nat) (xs : List Int) (F : FuncId) (C1 C2 C3 : Value) (f : Int → Bool) (w : World) (he : Ent F) (h : Ints w a n xs)
    (hF : ∀ x w', x ∈ xs → Keeps Non w w' → Calls Try.prog F #[.int .i64 x, C1, C2, C3] w' fun e w2 => e = .returned (.bool (f x)) ∧ Keeps Non w' w2) :
    Calls Try.prog 51 #[.slice a n cap, .func (.func F) #[] #[C1, C2, C3]] w (IdxP (xs.any f) w) := by
  have hn := h.big
  have HX := hide h
  have HF := hide hF
  have HEn := hide he
  clear h hF he
  go_enter Try.func51, Try.ntmps51
  go_wp2_with fail
  obtain ⟨W, hW, hWk⟩ : ∃ W, w = W ∧ Keeps Non w W := ⟨w, rfl, Keeps.refl _ _⟩
  go_loopw [8] (fun i wr => ∃ k : Nat, k ≤ n ∧ i = .int .i64 k ∧ Hid (Keeps Non w wr) ∧ Hid ((xs.take k).any f = false)) (fun i _ => n - (intOf i).toNat)
  case atStart => exact ⟨0, Nat.zero_le _, rfl, Keeps.refl _ _, rfl⟩
  case round =>
    clear hW hWk
    obtain ⟨k, hk, rfl, HK, HA⟩ := hrel
    have hxl : xs.length = n := HX.out.len
    by_cases hlt : k < n
    · obtain ⟨b1, o1, rfl, hb1, hc1⟩ := (HX.out.non HK.out).at (by omega)
      have ck := hc1 k hlt
      have hts := any_take_succ f xs k 0 (by omega)
      have hat := any_of_at f xs k 0 (by omega)
      obtain ⟨x, hx⟩ : ∃ x, xs.getD k 0 = x := ⟨_, rfl⟩
      rw [hx] at ck hts hat
      rw [HA.out] at hts
      have hxm : x ∈ xs := by rw [← hx]; exact getD_mem (by omega)
      have HC := hide (HF.out x wr hxm HK.out)
      obtain ⟨v, hv⟩ : ∃ v, f x = v := ⟨_, rfl⟩
      rw [hv] at HC hts hat
      have z0 : (0 : Int) ≤ (k : Int) := by omega
      have z1 : (k : Int) < (n : Int) := by omega
      clear hc1 hx hv hxl
      cases v with
      | true =>
        have HT := hide (hat rfl)
        clear hat hts
        go_wp2_with fail
        rw [HEn.out]
        refine HC.out.mono ?_
        rintro e w2 ⟨rfl, hk2⟩
        have HK2 := hide (HK.out.then hk2)
        clear hk2
        go_wp2_with fail
        try rw [Exit.noGoto_ret]
        go_ret
        exact ⟨_, rfl, fun _ => by omega, (fun h => by rw [HT.out] at h; cases h), HK2.out⟩
      | false =>
        have HT : Hid ((xs.take (k + 1)).any f = false) := hts
        clear hat hts
        go_wp2_with fail
        rw [HEn.out]
        refine HC.out.mono ?_
        rintro e w2 ⟨rfl, hk2⟩
        have HK2 := hide (HK.out.then hk2)
        clear hk2
        go_wp2_with fail
        go_roundw
        case rel => exact ⟨k + 1, by omega, by go_num, HK2.out, HT.out⟩
        case measure => simp [intOf]; omega
    · have hkn : k = n := by omega
      subst hkn
      have HT : Hid (xs.any f = false) := by
        show _ = _
        rw [← HA.out, List.take_of_length_le (by omega)]
      have y9 : ¬ (k : Int) < (k : Int) := by omega
      clear hxl
      go_wp2_with fail
      try rw [Exit.noGoto_ret]
      go_ret
      exact ⟨_, rfl, (fun h => by rw [HT.out] at h; cases h), fun _ => rfl, HK.out⟩
theorem contains_int3 (a : Option Addr) (n cap : Nat) (xs : List Int) (F : FuncId) (C1 C2 C3 : Value) (f : Int → Bool) (w : World) (he : Ent F) (h : Ints w a n xs)
    (hF : ∀ x w', x ∈ xs → Keeps Non w w' → Calls Try.prog F #[.int .i64 x, C1, C2, C3] w' fun e w2 => e = .returned (.bool (f x)) ∧ Keeps Non w' w2) :
    Calls Try.prog 29 #[.slice a n cap, .func (.func F) #[] #[C1, C2, C3]] w fun e w' => e = .returned (.bool (xs.any f)) ∧ Keeps Non w w' := by
  have HC := hide (index_int3 a n cap xs F C1 C2 C3 f w he h hF)
  obtain ⟨v, hv⟩ : ∃ v, xs.any f = v := ⟨_, rfl⟩
  rw [hv] at HC ⊢
  clear h hF hv
  go_enter Try.func29, Try.ntmps29
  go_wp2_with fail
  refine HC.out.mono ?_
  rintro e w2 ⟨r, rfl, h1, h2, hk⟩
  have HK := hide hk
  clear hk
  cases v with
  | true =>
    have y0 : 0 ≤ r := h1 rfl
    clear h1 h2
    go_wp2_with fail
    go_ret
    exact ⟨ret_bool (by simp), HK.out⟩
  | false =>
    obtain rfl : r = -1 := h2 rfl
    clear h1 h2
    go_wp2_with fail
    go_ret
    exact ⟨rfl, HK.out⟩
theorem ent30 : Ent 30 := ent_of Try.func30 (by decide) rfl
set_option maxRecDepth 100000 in
set_option maxHeartbeats 2000000 in
theorem led_l (q p : Nat) (n cap cw : Nat) (a aw : Option Addr) (next : List (List Int)) (W : List Int) (B1 B2 B3 : Nat) (w : World) (h : Rows w a n next) (hI : Ints w aw n W) (h1 : Blk w B1 [.slice a n cap] 23) (h2 : Blk w B2 [.int .i64 (p : Int)] 3) (h3 : Blk w B3 [.slice aw n cw] 25) (hq : q < n) (hp : p < n) (hb : ∀ i, -1000000 ≤ W.getD i 0 ∧ W.getD i 0 ≤ 1000000) :
    Calls Try.prog 30 #[.int .i64 (q : Int), .pointer (some ⟨B1, 0, none⟩), .pointer (some ⟨B2, 0, none⟩), .pointer (some ⟨B3, 0, none⟩)] w fun e w' => e = .returned (.bool (decide ((p : Int) ∈ succL next (q : Int)) && decide (W.getD q 0 = W.getD p 0 - 1))) ∧ Keeps Non w w' := by
  have c1 := h1.cell 0
  have c2 := h2.cell 0
  have c3 := h3.cell 0
  simp only [List.getElem?_cons_zero] at c1 c2 c3
  have l1 := h1.lt
  have l2 := h2.lt
  have l3 := h3.lt
  obtain ⟨bn, on, rfl, hbn, hcn⟩ := h.at (by omega)
  obtain ⟨ai, ci, hci, hIi⟩ := hcn q hq
  obtain ⟨bw, ow, rfl, hbw, hcw⟩ := hI.at (by omega)
  have cq := hcw q hq
  have cp := hcw p hp
  have hbp := hb p
  obtain ⟨ll, hll⟩ : ∃ ll, next.getD q [] = ll := ⟨_, rfl⟩
  have hsl : succL next (q : Int) = ll := hll
  rw [hll] at hci hIi
  obtain ⟨y, hy⟩ : ∃ y, W.getD q 0 = y := ⟨_, rfl⟩
  obtain ⟨z, hz⟩ : ∃ z, W.getD p 0 = z := ⟨_, rfl⟩
  rw [hy] at cq
  rw [hz] at cp hbp
  rw [hsl, hy, hz]
  have HI := hide hIi
  obtain ⟨ln, hln⟩ : ∃ ln, ll.length = ln := ⟨_, rfl⟩
  rw [hln] at hci HI
  have q0 : (0 : Int) ≤ (q : Int) := by omega
  have q1 : (q : Int) < (n : Int) := by omega
  have p0 : (0 : Int) ≤ (p : Int) := by omega
  have p1 : (p : Int) < (n : Int) := by omega
  have wz : IntKind.i64.wrap (z - 1) = z - 1 := IntWalk.i64_in _ (by omega)
  have hcq : q < n := hq
  have HCn : Hid (∀ u, Calls Try.prog 26 #[.slice ai ln ci, .int .i64 (p : Int)] (onto w u) fun e w' => e = .returned (.bool (decide ((p : Int) ∈ ll))) ∧ onto w u = w') := fun u => (contains_l ai ln ci ll p _ (HI.out.non (onto_keeps _ u))).mono fun e w' ⟨h1, h2⟩ => ⟨h1, h2.symm⟩
  obtain ⟨v, hv⟩ : ∃ v, decide ((p : Int) ∈ ll) = v := ⟨_, rfl⟩
  rw [hv] at HCn ⊢
  clear h h1 h2 h3 hcn hcw hI hll hsl hy hz hln hIi hv hb hbp
  cases v with
  | true =>
    by_cases hyz : y = z - 1
    · have g1 : (y == z - 1) = true := by simpa using hyz
      have HE : Hid (decide (y = z - 1) = true) := by show _ = _; simpa using hyz
      clear hyz
      go_enter Try.func30, Try.ntmps30
      go_wp2_with fail
      refine wp_region_onto (by kernel_rfl) (by kernel_rfl) ?_
      repeat (go_big_quiet_step (first | (go_at_call 26; exact onto_same (HCn.out _))))
      refine wpQuiet_nil ?_
      rintro _ ⟨u, rfl⟩
      go_wp2_with fail
      go_ret
      exact ⟨ret_bool (by rw [HE.out]; rfl), onto_keeps _ _⟩
    · have g1 : (y == z - 1) = false := by simpa using hyz
      have HE : Hid (decide (y = z - 1) = false) := by show _ = _; simpa using hyz
      clear hyz
      go_enter Try.func30, Try.ntmps30
      go_wp2_with fail
      refine wp_region_onto (by kernel_rfl) (by kernel_rfl) ?_
      repeat (go_big_quiet_step (first | (go_at_call 26; exact onto_same (HCn.out _))))
      refine wpQuiet_nil ?_
      rintro _ ⟨u, rfl⟩
      go_wp2_with fail
      go_ret
      exact ⟨ret_bool (by rw [HE.out]; rfl), onto_keeps _ _⟩
  | false =>
    go_enter Try.func30, Try.ntmps30
    go_wp2_with fail
    refine wp_region_onto (by kernel_rfl) (by kernel_rfl) ?_
    repeat (go_big_quiet_step (first | (go_at_call 26; exact onto_same (HCn.out _))))
    refine wpQuiet_nil ?_
    rintro _ ⟨u, rfl⟩
    go_wp2_with fail
    go_ret
    exact ⟨ret_bool (by simp), onto_keeps _ _⟩
end Go.Proofs.Ythpdflpkkiabhaa
