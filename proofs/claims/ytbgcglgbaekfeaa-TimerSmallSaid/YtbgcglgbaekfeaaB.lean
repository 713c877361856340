/-
  Walks over layer 34: of, its closure, there. No condition.
-/
import Derived.Test.YtbgcglgbaekfeaaA
namespace Go.Proofs.Ytbgcglgbaekfeaa
open Go.RowKit
attribute [local go_sem] onto_cell onto_frozen
/-- The first least one of the first k. -/
def ofK (xs : List Int) : Nat → Nat
  | 0 => 0
  | k + 1 => if xs.getD k 0 < xs.getD (ofK xs k) 0 then k else ofK xs k
theorem ofK_lt (xs : List Int) (k : Nat) : ofK xs k < k ∨ ofK xs k = 0 := by
  induction k with
  | zero => right; rfl
  | succ k ih =>
    unfold ofK
    split
    · left; omega
    · rcases ih with h | h
      · left; omega
      · right; exact h
theorem ofK_le (xs : List Int) (k : Nat) : ∀ j, j < k → xs.getD (ofK xs k) 0 ≤ xs.getD j 0 := by
  induction k with
  | zero => intro j hj; omega
  | succ k ih =>
    intro j hj
    unfold ofK
    split
    · rename_i h
      rcases Nat.lt_succ_iff_lt_or_eq.1 hj with h1 | rfl
      · have := ih j h1; omega
      · omega
    · rename_i h
      rcases Nat.lt_succ_iff_lt_or_eq.1 hj with h1 | rfl
      · exact ih j h1
      · omega
theorem ofK_first (xs : List Int) (k : Nat) : ∀ j, j < ofK xs k → xs.getD (ofK xs k) 0 < xs.getD j 0 := by
  induction k with
  | zero => intro j hj; simp [ofK] at hj
  | succ k ih =>
    intro j hj
    unfold ofK at hj ⊢
    split at hj
    · rename_i h
      rw [if_pos h]
      have := ofK_le xs k j hj
      omega
    · rename_i h
      rw [if_neg h]
      exact ih j hj
/-- The index of the one that fires, and its ticks. -/
def ofI (xs : List Int) : Nat := ofK xs xs.length
def ofT (xs : List Int) : Int := xs.getD (ofI xs) 0
def least (xs : List Int) : Value := if xs = [] then .agg #[.int .i64 (-1), .int .i64 0] else .agg #[.int .i64 (ofI xs), .int .i64 (ofT xs)]

theorem there_any (i t : Int) (w : World) :
    Calls Try.prog 33 #[.agg #[.int .i64 i, .int .i64 t]] w fun e w' => e = .returned (.bool (decide (0 ≤ i))) ∧ Keeps Non w w' := by
  go_enter Try.func33, Try.ntmps33
  go_wp2
  go_ret
  exact ⟨rfl, (Keeps.refl _ _).alloc _⟩

theorem of1_any (bl bi : Nat) (a : Option Addr) (n cap : Nat) (xs : List Int) (k i : Nat) (w : World) (hl : Blk w bl [.slice a n cap] 22) (hi : Blk w bi [.int .i64 i] 3) (h : Ints w a n xs) (hk : k < n) (hin : i < n) :
    Calls Try.prog 38 #[.int .i64 k, .pointer (some ⟨bl, 0, none⟩), .pointer (some ⟨bi, 0, none⟩)] w fun e w' => e = .returned (.bool (decide (xs.getD k 0 < xs.getD i 0))) ∧ Keeps Non w w' := by
  obtain ⟨b, off, rfl, hb, hc⟩ := h.at (by omega)
  have c0 : w.cell? ⟨bl, 0, none⟩ = some (.slice (some ⟨b, off, none⟩) n cap) := hl.cell 0
  have c1 : w.cell? ⟨bi, 0, none⟩ = some (.int .i64 i) := hi.cell 0
  have l0 := hl.lt
  have l1 := hi.lt
  obtain ⟨x, hx⟩ : ∃ x, xs.getD k 0 = x := ⟨_, rfl⟩
  obtain ⟨y, hy⟩ : ∃ x, xs.getD i 0 = x := ⟨_, rfl⟩
  have ck := hc k hk
  have ci := hc i hin
  have hbig := h.big
  have z0 : (0 : Int) ≤ (k : Int) := by omega
  have z1 : (k : Int) < (n : Int) := by omega
  have z2 : (0 : Int) ≤ (i : Int) := by omega
  have z3 : (i : Int) < (n : Int) := by omega
  rw [hx] at ck
  rw [hy] at ci
  rw [hx, hy]
  clear hx hy hc h hl hi hk hin
  go_enter Try.func38, Try.ntmps38
  go_wp2
  refine wp_region_onto (by kernel_rfl) (by kernel_rfl) ?_
  repeat (go_big_quiet_step (fail))
  refine wpQuiet_nil ?_
  rintro _ ⟨u, rfl⟩
  go_wp2
  go_ret
  exact ⟨rfl, onto_keeps w u⟩

set_option maxHeartbeats 1000000 in
theorem of_any (a : Option Addr) (n cap : Nat) (xs : List Int) (w : World) (h : Ints w a n xs) :
    Calls Try.prog 32 #[.slice a n cap] w fun e w' => e = .returned (least xs) ∧ Keeps Non w w' := by
  have hmf : ∀ (fn : Fn) (first cap : Array Value) (w : World), (Instr.makeFunc fn first cap).run Try.prog w = .ok (.func fn first cap) w := fun _ _ _ _ => rfl
  by_cases hn : n = 0
  · have hx : xs = [] := List.eq_nil_of_length_eq_zero (by rw [h.len]; exact hn)
    subst hn hx
    clear h
    go_enter Try.func32, Try.ntmps32
    go_wp2
    exact bodyPost_ret (v := .agg #[.int .i64 (-1), .int .i64 0]) (by simp [results, Try.results32, go_sem]) rfl ⟨rfl, by repeat (first | exact Keeps.refl _ _ | apply Keeps.alloc)⟩
  · have hn1 : ((n : Int) == 0) = false := by simp; omega
    have hbig := h.big
    go_enter Try.func32, Try.ntmps32
    go_wp2_with fail
    obtain ⟨W, hW⟩ : ∃ W, ((w.alloc (.cells #[.slice a n cap] 22)).alloc (.cells #[.int .i64 0, .int .i64 0] 48)).alloc (.cells #[.int .i64 0] 3) = W := ⟨_, rfl⟩
    have kW : Keeps Non w W := by rw [← hW]; repeat (first | exact Keeps.refl _ _ | apply Keeps.alloc)
    have b1 : Blk W w.heap.size [.slice a n cap] 22 := by rw [← hW]; exact ((Blk.new w _ _).alloc _).alloc _
    have b2 : Blk W (w.heap.size + 1) [.int .i64 0, .int .i64 0] 48 := by
      rw [← hW]; exact Blk.alloc (Blk.newAt _ [_, _] _ (by simp)) _
    have b3 : Blk W (w.heap.size + 1 + 1) [.int .i64 0] 3 := by
      rw [← hW]; exact Blk.newAt _ [_] _ (by simp)
    rw [hW]
    clear hW
    have hlen := hide h.len
    have HI := hide h
    have hpos : 0 < n := by omega
    clear h hn
    go_loopw [13] (fun k wr => ∃ q : Nat, q ≤ n ∧ k = .int .i64 q ∧ Keeps Non w wr ∧ Blk wr w.heap.size [.slice a n cap] 22 ∧ Blk wr (w.heap.size + 1) [.int .i64 0, .int .i64 0] 48 ∧ Blk wr (w.heap.size + 1 + 1) [.int .i64 (ofK xs q)] 3 ) (fun k _ => n - (intOf k).toNat)
    case atStart => exact ⟨0, Nat.zero_le _, rfl, kW, b1, b2, b3⟩
    case round =>
      obtain ⟨q, hq, rfl, hk, b1, b2, b3⟩ := hrel
      have hof := ofK_lt xs q
      by_cases hlt : q < n
      · have HC := hide (of1_any _ _ a n cap xs q (ofK xs q) wr b1 b3 (HI.out.non hk) hlt (by omega))
        by_cases hless : xs.getD q 0 < xs.getD (ofK xs q) 0
        · have hd : decide (xs.getD q 0 < xs.getD (ofK xs q) 0) = true := by simpa using hless
          have hs : Hid (ofK xs (q + 1) = q) := by unfold Hid; rw [ofK, if_pos hless]
          clear hless
          rw [hd] at HC
          clear hd
          go_wp2_with fail
          refine HC.out.mono ?_
          rintro e w1 ⟨rfl, hk1⟩
          have B1 := b1.keeps hk1 (fun x => x)
          have B2 := b2.keeps hk1 (fun x => x)
          have B3 := b3.keeps hk1 (fun x => x)
          have K1 := hk.then hk1
          have c3 : w1.cell? ⟨w.heap.size + 1 + 1, 0, none⟩ = some (.int .i64 (ofK xs q)) := B3.cell 0
          have f3 := B3.free 0 none
          clear b1 b2 b3 hk hk1 HC
          go_wp2
          go_roundw
          case rel =>
            exact ⟨q + 1, by omega, by go_num, K1.set (.inr (by omega)) _, B1.other (by simp; omega) _, B2.other (by simp) _, by rw [hs.out]; exact B3.store 0 _⟩
          case measure => simp [intOf]; omega
        · have hd : decide (xs.getD q 0 < xs.getD (ofK xs q) 0) = false := by simpa using hless
          have hs : Hid (ofK xs (q + 1) = ofK xs q) := by unfold Hid; rw [ofK, if_neg hless]
          clear hless
          rw [hd] at HC
          clear hd
          go_wp2_with fail
          refine HC.out.mono ?_
          rintro e w1 ⟨rfl, hk1⟩
          have B1 := b1.keeps hk1 (fun x => x)
          have B2 := b2.keeps hk1 (fun x => x)
          have B3 := b3.keeps hk1 (fun x => x)
          have K1 := hk.then hk1
          clear b1 b2 b3 hk hk1 HC
          go_wp2
          go_roundw
          case rel =>
            exact ⟨q + 1, by omega, by go_num, K1, B1, B2, by rw [hs.out]; exact B3⟩
          case measure => simp [intOf]; omega
      · have hqn : q = n := by omega
        have I1 := HI.out.non hk
        obtain ⟨b, off, rfl, hb, hc⟩ := I1.at (by omega)
        have c1 : wr.cell? ⟨w.heap.size, 0, none⟩ = some (.slice (some ⟨b, off, none⟩) n cap) := b1.cell 0
        have c3 : wr.cell? ⟨w.heap.size + 1 + 1, 0, none⟩ = some (.int .i64 (ofK xs q)) := b3.cell 0
        have ci := hc (ofK xs q) (by omega)
        have hfin : Hid (least xs = .agg #[.int .i64 (ofK xs q), .int .i64 (xs.getD (ofK xs q) 0)]) := by
          unfold Hid least ofT ofI
          rw [if_neg (by intro h0; rw [h0] at hlen; have := hlen.out; simp at this; omega), hlen.out, hqn]
        obtain ⟨x, hx⟩ : ∃ x, xs.getD (ofK xs q) 0 = x := ⟨_, rfl⟩
        obtain ⟨r, hr⟩ : ∃ r, ofK xs q = r := ⟨_, rfl⟩
        rw [hx] at ci hfin
        rw [hr] at ci hfin c3 hof
        have l1 := b1.lt
        have l2 := b2.lt
        have l3 := b3.lt
        have z0 : (0 : Int) ≤ (r : Int) := by omega
        have z1 : (r : Int) < (n : Int) := by omega
        have c20 : wr.cell? ⟨w.heap.size + 1, 0, none⟩ = some (.int .i64 0) := b2.cell 0
        have c21 : wr.cell? ⟨w.heap.size + 1, 1, none⟩ = some (.int .i64 0) := b2.cell 1
        have f20 := b2.free 0 none
        have f21 := b2.free 1 none
        clear hx hr hc I1 b1 b2 b3 hqn hlen HI
        go_wp2
        go_region
        all_goals
          go_wp2
          refine bodyPost_ret (v := .agg #[.int .i64 r, .int .i64 x]) (by simp [results, Try.results32, go_sem, c20, c21]) rfl ⟨by rw [hfin.out], ?_⟩
          repeat (first | assumption | exact hk.drew | (refine Keeps.set ?_ (.inr (by simp)) _) | apply Keeps.drew)
end Go.Proofs.Ytbgcglgbaekfeaa
