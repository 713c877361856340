/-
  Walks over layer 34: the timer: is, At, Fired, Left, Tick. No condition.
-/
import Derived.Test.YtbgcglgbaekfeaaE
namespace Go.Proofs.Ytbgcglgbaekfeaa
open Go.RowKit
attribute [local go_sem] onto_cell onto_frozen
/-- A timer that is one: which fires, after how many ticks, how many have passed, and whether it has. -/
def Tim (w : World) (b : Nat) (i t p : Int) (f : Bool) : Prop := Blk w b [.int .i64 i, .int .i64 t, .int .i64 p, .bool f, .bool true] 50
theorem ne32 (b : Nat) (w : World) : (binOp .neq 32 (.pointer (some ⟨b, 0, none⟩)) (.pointer none)).run Try.prog w = .ok (.bool true) w := by kernel_rfl
theorem is_any (b : Nat) (i t p : Int) (f : Bool) (w : World) (h : Tim w b i t p f) :
    Calls Try.prog 34 #[.pointer (some ⟨b, 0, none⟩)] w fun e w' => e = .returned (.bool true) ∧ w = w' := by
  have c4 : w.cell? ⟨b, 4, none⟩ = some (.bool true) := Blk.cell h 4
  have q := ne32
  clear h
  go_enter Try.func34, Try.ntmps34
  go_wp2
  go_ret
  exact ⟨rfl, rfl⟩
theorem at_any (b : Nat) (i t p : Int) (f : Bool) (w : World) (h : Tim w b i t p f) :
    Calls Try.prog 17 #[.pointer (some ⟨b, 0, none⟩)] w fun e w' => e = .returned (.int .i64 p) ∧ w = w' := by
  have c2 : w.cell? ⟨b, 2, none⟩ = some (.int .i64 p) := Blk.cell h 2
  have H := hide h
  clear h
  go_enter Try.func17, Try.ntmps17
  go_wp2_with (go_at_call 34; refine (is_any b i t p f _ H.out).mono ?_; rintro e w' ⟨rfl, rfl⟩)
  go_ret
  exact ⟨rfl, rfl⟩
theorem fired_any (b : Nat) (i t p : Int) (f : Bool) (w : World) (h : Tim w b i t p f) :
    Calls Try.prog 18 #[.pointer (some ⟨b, 0, none⟩)] w fun e w' => e = .returned (.bool f) ∧ w = w' := by
  have c3 : w.cell? ⟨b, 3, none⟩ = some (.bool f) := Blk.cell h 3
  have H := hide h
  clear h
  go_enter Try.func18, Try.ntmps18
  go_wp2_with (go_at_call 34; refine (is_any b i t p f _ H.out).mono ?_; rintro e w' ⟨rfl, rfl⟩)
  go_ret
  exact ⟨rfl, rfl⟩
/-- The cells of a timer. -/
theorem Tim.cells {w : World} {b i t p f} (h : Tim w b i t p f) : w.cell? ⟨b, 0, none⟩ = some (.int .i64 i) ∧ w.cell? ⟨b, 1, none⟩ = some (.int .i64 t) ∧ w.cell? ⟨b, 2, none⟩ = some (.int .i64 p) ∧ w.cell? ⟨b, 3, none⟩ = some (.bool f) ∧ w.cell? ⟨b, 4, none⟩ = some (.bool true) :=
  ⟨Blk.cell h 0, Blk.cell h 1, Blk.cell h 2, Blk.cell h 3, Blk.cell h 4⟩
theorem left_none (b : Nat) (i t p : Int) (w : World) (f : Bool) (h : Tim w b i t p f) (hf : i < 0 ∨ f = true) :
    Calls Try.prog 16 #[.pointer (some ⟨b, 0, none⟩)] w fun e w' => e = .returned (.tuple #[.int .i64 0, .bool false]) ∧ Keeps Non w w' := by
  obtain ⟨c0, c1, c2, c3, c4⟩ := h.cells
  have H := hide h
  have l0 := Blk.lt h
  clear h
  by_cases hi : 0 ≤ i
  · have hft : f = true := by rcases hf with h | h; omega; exact h
    subst hft
    clear hf
    go_enter Try.func16, Try.ntmps16
    go_wp2_with (first | (go_at_call 34; refine (is_any b i t p _ _ H.out).mono ?_; rintro e w' ⟨rfl, rfl⟩) | (go_at_call 33; refine (there_any i t _).mono ?_; rintro e w' ⟨rfl, hk⟩; obtain ⟨hcc, _⟩ := ncell hk; have hkk := hide hk; clear hk))
    go_ret2
    exact ⟨rfl, (‹Hid (Keeps Non w _)›).out⟩
  · clear hf
    go_enter Try.func16, Try.ntmps16
    go_wp2_with (first | (go_at_call 34; refine (is_any b i t p _ _ H.out).mono ?_; rintro e w' ⟨rfl, rfl⟩) | (go_at_call 33; refine (there_any i t _).mono ?_; rintro e w' ⟨rfl, hk⟩))
    go_ret2
    exact ⟨rfl, by assumption⟩
theorem left_some (b : Nat) (i t p : Int) (w : World) (h : Tim w b i t p false) (hi : 0 ≤ i) (h1 : 0 ≤ p) (h2 : p ≤ t) (h3 : t ≤ 9223372036854775807) :
    Calls Try.prog 16 #[.pointer (some ⟨b, 0, none⟩)] w fun e w' => e = .returned (.tuple #[.int .i64 (t - p), .bool true]) ∧ Keeps Non w w' := by
  obtain ⟨c0, c1, c2, c3, c4⟩ := h.cells
  have H := hide h
  have l0 := Blk.lt h
  clear h
  go_enter Try.func16, Try.ntmps16
  go_wp2_with (first | (go_at_call 34; refine (is_any b i t p _ _ H.out).mono ?_; rintro e w' ⟨rfl, rfl⟩) | (go_at_call 33; refine (there_any i t _).mono ?_; rintro e w' ⟨rfl, hk⟩; have T := Blk.keeps H.out hk id; have hkk := hide hk; clear hk c0 c1 c2 c3 c4 l0; obtain ⟨c0, c1, c2, c3, c4⟩ := Tim.cells T; have l0 := Blk.lt T; clear T))
  refine wp_region_onto (by kernel_rfl) (by kernel_rfl) ?_
  repeat (go_big_quiet_step (fail))
  refine wpQuiet_nil ?_
  rintro _ ⟨u, rfl⟩
  go_wp2
  go_ret2
  exact ⟨rfl, (‹Hid (Keeps Non w _)›).out.then (onto_keeps _ _)⟩

theorem there_yes (i t : Int) (hi : 0 ≤ i) (w : World) : Calls Try.prog 33 #[.agg #[.int .i64 i, .int .i64 t]] w fun e w' => e = .returned (.bool true) ∧ Keeps Non w w' := by
  have := there_any i t w
  rw [show decide (0 ≤ i) = true by simpa using hi] at this
  exact this
theorem there_not (i t : Int) (hi : i < 0) (w : World) : Calls Try.prog 33 #[.agg #[.int .i64 i, .int .i64 t]] w fun e w' => e = .returned (.bool false) ∧ Keeps Non w w' := by
  have := there_any i t w
  rw [show decide (0 ≤ i) = false by simpa using hi] at this
  exact this
theorem tick_over (b : Nat) (i t p : Int) (w : World) (h : Tim w b i t p true) :
    Calls Try.prog 15 #[.pointer (some ⟨b, 0, none⟩)] w fun e w' => e = .returned (.tuple #[.int .i64 0, .bool false, .int .i64 341]) ∧ w = w' := by
  obtain ⟨c0, c1, c2, c3, c4⟩ := h.cells
  have H := hide h
  clear h
  go_enter Try.func15, Try.ntmps15
  go_wp2_with (go_at_call 34; refine (is_any b i t p _ _ H.out).mono ?_; rintro e w' ⟨rfl, rfl⟩)
  go_ret3
  exact ⟨rfl, rfl⟩
theorem tick_none (b : Nat) (i t p : Int) (w : World) (h : Tim w b i t p false) (hi : i < 0) (hp0 : 0 ≤ p) (hp : p ≤ 1152921504606846976) :
    Calls Try.prog 15 #[.pointer (some ⟨b, 0, none⟩)] w fun e w' => e = .returned (.tuple #[.int .i64 0, .bool false, .int .i64 0]) ∧ Keeps (· = b) w w' ∧ Tim w' b i t (p + 1) false := by
  obtain ⟨c0, c1, c2, c3, c4⟩ := h.cells
  have f2 := Blk.free h 2 none
  have l0 := Blk.lt h
  have H := hide h
  clear h
  go_enter Try.func15, Try.ntmps15
  go_wp2_with (go_at_call 34; refine (is_any b i t p _ _ H.out).mono ?_; rintro e w' ⟨rfl, rfl⟩)
  obtain ⟨W, hW⟩ : ∃ W, w.setCell ⟨b, 2, none⟩ (.int .i64 (p + 1)) = W := ⟨_, rfl⟩
  have T : Tim W b i t (p + 1) false := by rw [← hW]; exact Blk.store H.out 2 _
  have K : Keeps (· = b) w W := by rw [← hW]; exact (Keeps.refl (· = b) w).set (.inl rfl) _
  rw [hW]
  obtain ⟨d0, d1, d2, d3, d4⟩ := T.cells
  have lw := Blk.lt T
  have HT := hide (And.intro T K)
  have HC := hide (there_not i t hi)
  clear hW T K c0 c1 c2 c3 c4
  refine wp_region_onto (by kernel_rfl) (by kernel_rfl) ?_
  repeat (go_big_quiet_step (first | (go_at_call 33; exact onto_call (HC.out _))))
  refine wpQuiet_nil ?_
  rintro _ ⟨u, rfl⟩
  go_wp2
  go_ret3
  obtain ⟨T, K⟩ := HT.out
  exact ⟨rfl, K.thenNon (onto_keeps _ _), Blk.keeps T (onto_keeps _ _) id⟩
theorem tick_not (b : Nat) (i t p : Int) (w : World) (h : Tim w b i t p false) (hi : 0 ≤ i) (hn : ¬ p + 1 = t) (hp0 : 0 ≤ p) (hp : p ≤ 1152921504606846976) :
    Calls Try.prog 15 #[.pointer (some ⟨b, 0, none⟩)] w fun e w' => e = .returned (.tuple #[.int .i64 0, .bool false, .int .i64 0]) ∧ Keeps (· = b) w w' ∧ Tim w' b i t (p + 1) false := by
  obtain ⟨c0, c1, c2, c3, c4⟩ := h.cells
  have f2 := Blk.free h 2 none
  have l0 := Blk.lt h
  have H := hide h
  clear h
  go_enter Try.func15, Try.ntmps15
  go_wp2_with (go_at_call 34; refine (is_any b i t p _ _ H.out).mono ?_; rintro e w' ⟨rfl, rfl⟩)
  obtain ⟨W, hW⟩ : ∃ W, w.setCell ⟨b, 2, none⟩ (.int .i64 (p + 1)) = W := ⟨_, rfl⟩
  have T : Tim W b i t (p + 1) false := by rw [← hW]; exact Blk.store H.out 2 _
  have K : Keeps (· = b) w W := by rw [← hW]; exact (Keeps.refl (· = b) w).set (.inl rfl) _
  rw [hW]
  obtain ⟨d0, d1, d2, d3, d4⟩ := T.cells
  have lw := Blk.lt T
  have HT := hide (And.intro T K)
  have HC := hide (there_yes i t hi)
  clear hW T K c0 c1 c2 c3 c4
  refine wp_region_onto (by kernel_rfl) (by kernel_rfl) ?_
  repeat (go_big_quiet_step (first | (go_at_call 33; exact onto_call (HC.out _))))
  refine wpQuiet_nil ?_
  rintro _ ⟨u, rfl⟩
  go_wp2
  go_ret3
  obtain ⟨T, K⟩ := HT.out
  exact ⟨rfl, K.thenNon (onto_keeps _ _), Blk.keeps T (onto_keeps _ _) id⟩
theorem tick_fires (b : Nat) (i t p : Int) (w : World) (h : Tim w b i t p false) (hi : 0 ≤ i) (hn : p + 1 = t) (hp0 : 0 ≤ p) (hp : p ≤ 1152921504606846976) :
    Calls Try.prog 15 #[.pointer (some ⟨b, 0, none⟩)] w fun e w' => e = .returned (.tuple #[.int .i64 i, .bool true, .int .i64 0]) ∧ Keeps (· = b) w w' ∧ Tim w' b i t t true := by
  subst hn
  obtain ⟨c0, c1, c2, c3, c4⟩ := h.cells
  have f2 := Blk.free h 2 none
  have l0 := Blk.lt h
  have H := hide h
  clear h
  go_enter Try.func15, Try.ntmps15
  go_wp2_with (go_at_call 34; refine (is_any b i _ p _ _ H.out).mono ?_; rintro e w' ⟨rfl, rfl⟩)
  obtain ⟨W, hW⟩ : ∃ W, w.setCell ⟨b, 2, none⟩ (.int .i64 (p + 1)) = W := ⟨_, rfl⟩
  have T : Tim W b i (p + 1) (p + 1) false := by rw [← hW]; exact Blk.store H.out 2 _
  have K : Keeps (· = b) w W := by rw [← hW]; exact (Keeps.refl (· = b) w).set (.inl rfl) _
  rw [hW]
  obtain ⟨d0, d1, d2, d3, d4⟩ := T.cells
  have lw := Blk.lt T
  have HT := hide (And.intro T K)
  have HC := hide (there_yes i (p + 1) hi)
  clear hW T K c0 c1 c2 c3 c4
  refine wp_region_onto (by kernel_rfl) (by kernel_rfl) ?_
  repeat (go_big_quiet_step (first | (go_at_call 33; exact onto_call (HC.out _))))
  refine wpQuiet_nil ?_
  rintro _ ⟨u, rfl⟩
  obtain ⟨T, K⟩ := HT.out
  have T2 : Tim (onto W u) b i (p + 1) (p + 1) false := Blk.keeps T (onto_keeps _ _) id
  have K2 : Keeps (· = b) w (onto W u) := K.thenNon (onto_keeps _ _)
  generalize onto W u = W2 at T2 K2 ⊢
  obtain ⟨d0, d1, d2, d3, d4⟩ := T2.cells
  have f3 := Blk.free T2 3 none
  have HT := hide (And.intro T2 K2)
  clear T K T2 K2
  go_wp2
  go_ret3
  obtain ⟨T, K⟩ := HT.out
  exact ⟨rfl, K.set (.inl rfl) _, Blk.store T 3 _⟩
end Go.Proofs.Ytbgcglgbaekfeaa
