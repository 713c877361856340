/-
  Walks over layer 34: awake, and Made. No condition.
-/
import Derived.Test.YtbgcglgbaekfeaaH
namespace Go.Proofs.Ytbgcglgbaekfeaa
open Go.RowKit
attribute [local go_sem] onto_cell onto_frozen
theorem ints_of_blk {w : World} {b : Nat} {t : TypeId} {xs : List Int} (h : Blk w b (xs.map (Value.int .i64)) t) (hb : xs.length ≤ 17592186044416) : Ints w (some ⟨b, 0, none⟩) xs.length xs :=
  ⟨rfl, hb, .inr ⟨b, 0, rfl, h.lt, fun i hi => by
    rw [h.cell]
    simp [List.getD_eq_getElem?_getD, hi]⟩⟩
def exL : List Int := [5, 3, 3, 9]
theorem aw_first (a : Option Addr) (c : Nat) (w : World) (h : Ints w a 4 exL) : Calls Try.prog 12 #[.slice a 4 c] w fun e w' => e = .returned (.tuple #[.int .i64 1, .bool true, .int .i64 0]) ∧ Keeps Non w w' :=
  (first_ok a 4 c exL w h (by decide)).mono fun _ _ ⟨he, hk⟩ => ⟨he.trans rfl, hk⟩
theorem aw_only (a : Option Addr) (c : Nat) (w : World) (h : Ints w a 4 exL) : Calls Try.prog 13 #[.slice a 4 c] w fun e w' => ∃ a' n' c', e = .returned (.tuple #[.slice a' n' c', .int .i64 0]) ∧ Ints w' a' n' [3] ∧ Keeps Non w w' :=
  only_ok a 4 c exL w h (by decide)
theorem aw_go1 (a : Option Addr) (c : Nat) (w : World) (h : Ints w a 4 exL) : Calls Try.prog 19 #[.slice a 4 c, .int .i64 0, .int .i64 2] w fun e w' => e = .returned (.tuple #[.int .i64 2, .bool false, .int .i64 0]) ∧ Keeps Non w w' :=
  (go_any a 4 c exL 0 2 w h).mono fun _ _ ⟨he, hk⟩ => ⟨he.trans rfl, hk⟩
theorem aw_go2 (a : Option Addr) (c : Nat) (w : World) (h : Ints w a 4 exL) : Calls Try.prog 19 #[.slice a 4 c, .int .i64 0, .int .i64 10] w fun e w' => e = .returned (.tuple #[.int .i64 3, .bool true, .int .i64 0]) ∧ Keeps Non w w' :=
  (go_any a 4 c exL 0 10 w h).mono fun _ _ ⟨he, hk⟩ => ⟨he.trans rfl, hk⟩
theorem aw_go3 (a : Option Addr) (c : Nat) (w : World) (h : Ints w a 4 exL) : Calls Try.prog 19 #[.slice a 4 c, .int .i64 3, .int .i64 1] w fun e w' => e = .returned (.tuple #[.int .i64 0, .bool false, .int .i64 341]) ∧ Keeps Non w w' :=
  (go_any a 4 c exL 3 1 w h).mono fun _ _ ⟨he, hk⟩ => ⟨he.trans rfl, hk⟩
theorem aw_rounds (a : Option Addr) (c : Nat) (w : World) (h : Ints w a 4 exL) : Calls Try.prog 20 #[.slice a 4 c, .int .i64 10] w fun e w' => e = .returned (.tuple #[.int .i64 3, .int .i64 1, .int .i64 0]) ∧ Keeps Non w w' :=
  (rounds_any a 4 c exL 10 w h (by decide)).mono fun _ _ ⟨he, hk⟩ => ⟨he.trans rfl, hk⟩
theorem aw_new (a : Option Addr) (c : Nat) (w : World) (h : Ints w a 4 exL) : Calls Try.prog 14 #[.slice a 4 c] w fun e w' => ∃ b, e = .returned (.tuple #[.pointer (some ⟨b, 0, none⟩), .int .i64 0]) ∧ w.heap.size ≤ b ∧ Tim w' b 1 3 0 false ∧ Keeps Non w w' :=
  new_ok a 4 c exL w h (by decide)
theorem aw_equal (a b : Option Addr) (c d : Nat) (w : World) (h : Ints w a 1 [3]) (h2 : Ints w b 1 [3]) : Calls Try.prog 30 #[.slice a 1 c, .slice b 1 d] w fun e w' => e = .returned (.bool true) ∧ Keeps Non w w' :=
  (equal_any a 1 c [3] b 1 d [3] w h h2).mono fun _ _ ⟨he, hk⟩ => ⟨he.trans rfl, hk⟩
theorem eq32 (b : Nat) (w : World) : (binOp .eql 32 (.pointer (some ⟨b, 0, none⟩)) (.pointer none)).run Try.prog w = .ok (.bool false) w := by kernel_rfl
set_option maxRecDepth 100000 in
set_option maxHeartbeats 4000000 in
theorem awake_any (w : World) :
    Calls Try.prog 10 #[] w fun e w' => e = .returned (.bool true) ∧ Keeps Non w w' := by
  have q := eq32
  go_enter Try.func10, Try.ntmps10
  go_wp2_with fail
  obtain ⟨W, hW⟩ : ∃ W, w.alloc (.cells #[.int .i64 5, .int .i64 3, .int .i64 3, .int .i64 9] 3) = W := ⟨_, rfl⟩
  have HI : Hid (Ints W (some ⟨w.heap.size, 0, none⟩) 4 exL) := by rw [← hW]; exact ints_of_blk (xs := exL) (Blk.newAt _ [.int .i64 5, .int .i64 3, .int .i64 3, .int .i64 9] 3 rfl) (by decide)
  have HK : Hid (Keeps Non w W) := by rw [← hW]; exact (Keeps.refl _ w).alloc _
  rw [hW]
  clear hW
  refine (aw_first _ _ _ HI.out).mono ?_
  rintro e w1 ⟨rfl, hk⟩
  have HI := hide (HI.out.non hk)
  have HK := hide (HK.out.then hk)
  clear hk
  go_wp2_with fail
  refine (aw_only _ _ _ HI.out).mono ?_
  rintro e w2 ⟨a', n', c', rfl, ho, hk⟩
  have hn' : n' = 1 := ho.len.symm
  subst hn'
  have HO := hide ho
  have HI := hide (HI.out.non hk)
  have HK := hide (HK.out.then hk)
  clear hk ho
  go_wp2_with fail
  refine (aw_go1 _ _ _ HI.out).mono ?_
  rintro e w3 ⟨rfl, hk⟩
  have HO := hide (HO.out.non hk)
  have HI := hide (HI.out.non hk)
  have HK := hide (HK.out.then hk)
  clear hk
  go_wp2_with fail
  refine (aw_go2 _ _ _ HI.out).mono ?_
  rintro e w4 ⟨rfl, hk⟩
  have HO := hide (HO.out.non hk)
  have HI := hide (HI.out.non hk)
  have HK := hide (HK.out.then hk)
  clear hk
  go_wp2_with fail
  refine (aw_go3 _ _ _ HI.out).mono ?_
  rintro e w5 ⟨rfl, hk⟩
  have HO := hide (HO.out.non hk)
  have HI := hide (HI.out.non hk)
  have HK := hide (HK.out.then hk)
  clear hk
  go_wp2_with fail
  refine (aw_rounds _ _ _ HI.out).mono ?_
  rintro e w6 ⟨rfl, hk⟩
  have HO := hide (HO.out.non hk)
  have HI := hide (HI.out.non hk)
  have HK := hide (HK.out.then hk)
  clear hk
  go_wp2_with fail
  refine (aw_new _ _ _ HI.out).mono ?_
  rintro e w7 ⟨b, rfl, hb, hT, hk⟩
  have HO := hide (HO.out.non hk)
  have HB := hide (Nat.le_trans HK.out.size hb)
  have HK := hide (HK.out.then hk)
  have HT := hide hT
  clear hk hT hb
  go_wp2_with fail
  have h3 : Ints (w7.alloc (.cells #[.int .i64 3] 3)) (some ⟨w7.heap.size, 0, none⟩) 1 [3] := ints_of_blk (xs := [3]) (Blk.newAt _ [.int .i64 3] 3 rfl) (by decide)
  refine (aw_equal _ _ _ _ _ (HO.out.non ((Keeps.refl _ _).alloc _)) h3).mono ?_
  rintro e w8 ⟨rfl, hk⟩
  have HT := hide (Blk.keeps (Blk.alloc HT.out _) hk id)
  have HK := hide ((HK.out.alloc _).then hk)
  clear hk h3
  go_wp2_with fail
  refine (tick_not b 1 3 0 _ HT.out (by decide) (by decide) (by decide) (by decide)).mono ?_
  rintro e w9 ⟨rfl, hk, hT⟩
  have HT := hide hT
  have HK := hide (HK.out.trans hk (by intro i hi e; have := HB.out; omega))
  clear hk hT
  go_wp2_with fail
  refine (tick_not b 1 3 1 _ HT.out (by decide) (by decide) (by decide) (by decide)).mono ?_
  rintro e w10 ⟨rfl, hk, hT⟩
  have HT := hide hT
  have HK := hide (HK.out.trans hk (by intro i hi e; have := HB.out; omega))
  clear hk hT
  go_wp2_with fail
  refine (left_some b 1 3 2 _ HT.out (by decide) (by decide) (by decide) (by decide)).mono ?_
  rintro e w11 ⟨rfl, hk⟩
  have HT := hide (Blk.keeps HT.out hk id)
  have HK := hide (HK.out.then hk)
  clear hk
  go_wp2_with fail
  refine (tick_fires b 1 3 2 _ HT.out (by decide) (by decide) (by decide) (by decide)).mono ?_
  rintro e w12 ⟨rfl, hk, hT⟩
  have HT := hide hT
  have HK := hide (HK.out.trans hk (by intro i hi e; have := HB.out; omega))
  clear hk hT
  go_wp2_with fail
  refine (tick_over b 1 3 3 _ HT.out).mono ?_
  rintro e w13 ⟨rfl, rfl⟩
  go_wp2_with fail
  refine (fired_any b 1 3 3 true _ HT.out).mono ?_
  rintro e w14 ⟨rfl, rfl⟩
  go_wp2
  go_ret
  exact ⟨rfl, HK.out⟩
end Go.Proofs.Ytbgcglgbaekfeaa
