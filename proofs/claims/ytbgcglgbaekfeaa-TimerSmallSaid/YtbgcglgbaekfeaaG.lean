/-
  Walks over layer 34: Only, New, Enter, slices.Equal. No condition.
-/
import Derived.Test.YtbgcglgbaekfeaaF
namespace Go.Proofs.Ytbgcglgbaekfeaa
open Go.RowKit
attribute [local go_sem] onto_cell onto_frozen
/-- What fires of timeouts, and its ticks. -/
def lI (xs : List Int) : Int := if xs = [] then -1 else ofI xs
def lT (xs : List Int) : Int := if xs = [] then 0 else ofT xs
theorem least_eq (xs : List Int) : least xs = .agg #[.int .i64 (lI xs), .int .i64 (lT xs)] := by
  unfold least lI lT
  split <;> rfl
theorem new_bad (a : Option Addr) (n cap : Nat) (xs : List Int) (w : World) (h : Ints w a n xs) (hc : (chk xs != 0) = true) :
    Calls Try.prog 14 #[.slice a n cap] w fun e w' => e = .returned (.tuple #[.pointer none, .int .i64 (chk xs)]) ∧ w = w' := by
  have H := hide h
  clear h
  go_enter Try.func14, Try.ntmps14
  go_wp2_with (go_at_call 29; refine (check_any a n cap xs _ H.out).mono ?_; rintro e w' ⟨rfl, rfl⟩)
  go_ret2
  exact ⟨rfl, rfl⟩
set_option maxHeartbeats 1000000 in
theorem new_ok (a : Option Addr) (n cap : Nat) (xs : List Int) (w : World) (h : Ints w a n xs) (hc : chk xs = 0) :
    Calls Try.prog 14 #[.slice a n cap] w fun e w' => ∃ b, e = .returned (.tuple #[.pointer (some ⟨b, 0, none⟩), .int .i64 0]) ∧ w.heap.size ≤ b ∧ Tim w' b (lI xs) (lT xs) 0 false ∧ Keeps Non w w' := by
  have H := hide h
  have hlen := h.len
  have hbig := h.big
  have HK : Hid (Calls Try.prog 29 #[.slice a n cap] w fun e w' => e = .returned (.int .i64 0) ∧ w = w') := by
    have := check_any a n cap xs w h
    rw [hc] at this
    exact this
  clear h hc
  go_enter Try.func14, Try.ntmps14
  go_wp2_with (go_at_call 29; refine HK.out.mono ?_; rintro e w' ⟨rfl, rfl⟩)
  refine (clone_any a n cap xs _ H.out).mono ?_
  rintro e w1 ⟨v, rfl, hown, hk1⟩
  obtain ⟨a1, c1, rfl, h1⟩ := ints_of_owns hown hbig
  have HC := hide (of_any a1 _ c1 xs w1 h1)
  rw [least_eq] at HC
  clear hown h1
  have HK1 := hide hk1
  clear hk1
  go_wp2_with fail
  refine HC.out.mono ?_
  rintro e w2 ⟨rfl, hk2⟩
  have hkk := hide (HK1.out.then hk2)
  clear hk2 HK1
  go_wp2
  go_ret2
  refine ⟨_, rfl, hkk.out.size, ?_, hkk.out.alloc _⟩
  exact Blk.newAt _ [_, _, _, _, _] _ rfl
theorem enter_bad (b : Nat) (i t p : Int) (f : Bool) (a : Option Addr) (n cap : Nat) (xs : List Int) (w : World) (hm : Tim w b i t p f) (h : Ints w a n xs) (hc : (chk xs != 0) = true) :
    Calls Try.prog 21 #[.pointer (some ⟨b, 0, none⟩), .slice a n cap] w fun e w' => e = .returned (.int .i64 (chk xs)) ∧ w = w' := by
  have H := hide h
  have HM := hide hm
  clear h hm
  go_enter Try.func21, Try.ntmps21
  go_wp2_with (first | (go_at_call 34; refine (is_any b i t p _ _ HM.out).mono ?_; rintro e w' ⟨rfl, rfl⟩) | (go_at_call 29; refine (check_any a n cap xs _ H.out).mono ?_; rintro e w' ⟨rfl, rfl⟩))
  go_ret
  exact ⟨rfl, rfl⟩
theorem enter_ok (b : Nat) (i t p : Int) (f : Bool) (a : Option Addr) (n cap : Nat) (xs : List Int) (w : World) (hm : Tim w b i t p f) (h : Ints w a n xs) (hc : chk xs = 0) :
    Calls Try.prog 21 #[.pointer (some ⟨b, 0, none⟩), .slice a n cap] w fun e w' => e = .returned (.int .i64 0) ∧ Keeps (· = b) w w' ∧ Tim w' b (lI xs) (lT xs) 0 false := by
  have H := hide h
  have HM := hide hm
  have HK : Hid (Calls Try.prog 29 #[.slice a n cap] w fun e w' => e = .returned (.int .i64 0) ∧ w = w') := by
    have := check_any a n cap xs w h
    rw [hc] at this
    exact this
  have HC := hide (of_any a n cap xs w h)
  rw [least_eq] at HC
  clear h hm hc
  go_enter Try.func21, Try.ntmps21
  go_wp2_with (first | (go_at_call 34; refine (is_any b i t p _ _ HM.out).mono ?_; rintro e w' ⟨rfl, rfl⟩) | (go_at_call 29; refine HK.out.mono ?_; rintro e w' ⟨rfl, rfl⟩))
  refine HC.out.mono ?_
  rintro e w2 ⟨rfl, hk2⟩
  have T : Tim w2 b i t p f := Blk.keeps HM.out hk2 id
  obtain ⟨c0, c1, c2, c3, c4⟩ := T.cells
  have f0 := Blk.free T 0 none
  have f1 := Blk.free T 1 none
  have f2 := Blk.free T 2 none
  have f3 := Blk.free T 3 none
  have f4 := Blk.free T 4 none
  have HT := hide (And.intro T hk2)
  clear T hk2
  go_wp2
  go_ret
  obtain ⟨T, K⟩ := HT.out
  exact ⟨rfl, (((((K.weak (T := (· = b)) (fun _ _ x => x.elim)).set (.inl rfl) _).set (.inl rfl) _).set (.inl rfl) _).set (.inl rfl) _).set (.inl rfl) _, ((((Blk.store T 0 _).store 1 _).store 2 _).store 3 _).store 4 _⟩
theorem only_bad (a : Option Addr) (n cap : Nat) (xs : List Int) (w : World) (h : Ints w a n xs) (hc : (chk xs != 0) = true) :
    Calls Try.prog 13 #[.slice a n cap] w fun e w' => e = .returned (.tuple #[.slice none 0 0, .int .i64 (chk xs)]) ∧ w = w' := by
  have H := hide h
  clear h
  go_enter Try.func13, Try.ntmps13
  go_wp2_with (go_at_call 29; refine (check_any a n cap xs _ H.out).mono ?_; rintro e w' ⟨rfl, rfl⟩)
  go_ret2
  exact ⟨rfl, rfl⟩
/-- What Only returns of right timeouts. -/
def onlyL (xs : List Int) : List Int := if xs = [] then [] else [ofT xs]
theorem only_ok (a : Option Addr) (n cap : Nat) (xs : List Int) (w : World) (h : Ints w a n xs) (hc : chk xs = 0) :
    Calls Try.prog 13 #[.slice a n cap] w fun e w' => ∃ a' n' c', e = .returned (.tuple #[.slice a' n' c', .int .i64 0]) ∧ Ints w' a' n' (onlyL xs) ∧ Keeps Non w w' := by
  have H := hide h
  have HK : Hid (Calls Try.prog 29 #[.slice a n cap] w fun e w' => e = .returned (.int .i64 0) ∧ w = w') := by
    have := check_any a n cap xs w h
    rw [hc] at this
    exact this
  have HC := hide (of_any a n cap xs w h)
  rw [least_eq] at HC
  clear h hc
  by_cases hx : xs = []
  · rw [show lI xs = -1 by simp [lI, hx], show lT xs = 0 by simp [lT, hx]] at HC
    rw [show onlyL xs = [] by simp [onlyL, hx]]
    clear hx
    go_enter Try.func13, Try.ntmps13
    go_wp2_with (go_at_call 29; refine HK.out.mono ?_; rintro e w' ⟨rfl, rfl⟩)
    refine HC.out.mono ?_
    rintro e w2 ⟨rfl, hk2⟩
    have hkk := hide hk2
    clear hk2
    go_wp2_with (go_at_call 33; refine (there_not (-1) 0 (by decide) _).mono ?_; rintro e w' ⟨rfl, hk⟩)
    go_ret2
    exact ⟨none, 0, 0, rfl, Ints.nil _ _, (hkk.out.alloc _).then (by assumption)⟩
  · rw [show lI xs = ofI xs by simp [lI, hx], show lT xs = ofT xs by simp [lT, hx]] at HC
    rw [show onlyL xs = [ofT xs] by simp [onlyL, hx]]
    generalize ofT xs = t at HC ⊢
    generalize ofI xs = q at HC ⊢
    clear hx
    go_enter Try.func13, Try.ntmps13
    go_wp2_with (go_at_call 29; refine HK.out.mono ?_; rintro e w' ⟨rfl, rfl⟩)
    refine HC.out.mono ?_
    rintro e w2 ⟨rfl, hk2⟩
    have hkk := hide hk2
    clear hk2
    go_wp2_with fail
    refine (there_yes (q : Int) t (by omega) _).mono ?_
    rintro e w3 ⟨rfl, hk3⟩
    have B : Blk w3 w2.heap.size [.int .i64 q, .int .i64 t] 48 := (Blk.new w2 [.int .i64 q, .int .i64 t] 48).keeps hk3 id
    have c1 : w3.cell? ⟨w2.heap.size, 1, none⟩ = some (.int .i64 t) := B.cell 1
    have K := hide ((hkk.out.alloc _).then hk3)
    clear B hk3
    go_wp2
    go_ret2
    refine ⟨_, _, _, rfl, ⟨rfl, by omega, .inr ⟨_, 0, rfl, by simp, ?_⟩⟩, K.out.alloc _⟩
    intro i hi
    have : i = 0 := by omega
    subst this
    exact (Blk.newAt w3 [.int .i64 t] _ rfl).cell 0
end Go.Proofs.Ytbgcglgbaekfeaa
