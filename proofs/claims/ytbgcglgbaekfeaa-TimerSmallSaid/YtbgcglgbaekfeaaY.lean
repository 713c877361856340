/-
  slices.Repeat of a one, thirteen times; timers that are none. No condition.
-/
import Derived.Test.YtbgcglgbaekfeaaX
import Derived.Laws.CopyOwn
import Derived.Deep.RegionLaw
namespace Go.Proofs.Ytbgcglgbaekfeaa
open Go.RowKit
attribute [local go_sem] onto_cell onto_frozen dnn
theorem mul_13 (w : World) : Calls Try.prog 35 #[.int .u64 1, .int .u64 13] w fun e w' => e = .returned (.tuple #[.int .u64 0, .int .u64 13]) ∧ w = w' := by
  go_enter Try.func35, Try.ntmps35
  go_wp2
  go_ret2
  exact ⟨by kernel_rfl, rfl⟩
theorem make_13 (w : World) : (Instr.makeSlice 22 (.int .i64 13) (.int .i64 13)).run Try.prog w = .ok (.slice (some ⟨w.heap.size, 0, none⟩) 13 13) (w.alloc (.cells (List.replicate 13 (Value.int .i64 0)).toArray 3)) := by kernel_rfl
/-- Ones up to k. -/
def rp (k : Nat) : List Value := List.replicate k (Value.int .i64 1) ++ List.replicate (13 - k) (Value.int .i64 0)
theorem rep_one {m : Nat} : ∀ v ∈ List.replicate m (Value.int .i64 1), v.oneCell' = true := by
  intro v hv
  rw [List.eq_of_mem_replicate hv]
  rfl
theorem src_1 {w : World} {g : Nat} (h : Blk w g (rp 1) 3) : 0 < (List.replicate 1 (Value.int .i64 1)).length → (some ⟨g, 1, none⟩ : Option Addr) = some ⟨g, 1, none⟩ ∧ ∃ ad, (some ⟨g, 0, none⟩ : Option Addr) = some ad ∧ ∀ j v, (List.replicate 1 (Value.int .i64 1))[j]? = some v → w.cell? (ad.add j) = some v := by
  intro _
  refine ⟨rfl, _, rfl, fun j v hj => ?_⟩
  have hjm : j < 1 := by have := (List.getElem?_eq_some_iff.1 hj).1; simpa using this
  rw [Addr.add_lit, Nat.zero_add, h.cell]
  have e1 : (rp 1)[j]? = (List.replicate 1 (Value.int .i64 1))[j]? := by
    unfold rp
    rw [List.getElem?_append_left (by simp; omega)]
  exact e1.trans hj
theorem src_2 {w : World} {g : Nat} (h : Blk w g (rp 2) 3) : 0 < (List.replicate 2 (Value.int .i64 1)).length → (some ⟨g, 2, none⟩ : Option Addr) = some ⟨g, 2, none⟩ ∧ ∃ ad, (some ⟨g, 0, none⟩ : Option Addr) = some ad ∧ ∀ j v, (List.replicate 2 (Value.int .i64 1))[j]? = some v → w.cell? (ad.add j) = some v := by
  intro _
  refine ⟨rfl, _, rfl, fun j v hj => ?_⟩
  have hjm : j < 2 := by have := (List.getElem?_eq_some_iff.1 hj).1; simpa using this
  rw [Addr.add_lit, Nat.zero_add, h.cell]
  have e1 : (rp 2)[j]? = (List.replicate 2 (Value.int .i64 1))[j]? := by
    unfold rp
    rw [List.getElem?_append_left (by simp; omega)]
  exact e1.trans hj
theorem src_4 {w : World} {g : Nat} (h : Blk w g (rp 4) 3) : 0 < (List.replicate 4 (Value.int .i64 1)).length → (some ⟨g, 4, none⟩ : Option Addr) = some ⟨g, 4, none⟩ ∧ ∃ ad, (some ⟨g, 0, none⟩ : Option Addr) = some ad ∧ ∀ j v, (List.replicate 4 (Value.int .i64 1))[j]? = some v → w.cell? (ad.add j) = some v := by
  intro _
  refine ⟨rfl, _, rfl, fun j v hj => ?_⟩
  have hjm : j < 4 := by have := (List.getElem?_eq_some_iff.1 hj).1; simpa using this
  rw [Addr.add_lit, Nat.zero_add, h.cell]
  have e1 : (rp 4)[j]? = (List.replicate 4 (Value.int .i64 1))[j]? := by
    unfold rp
    rw [List.getElem?_append_left (by simp; omega)]
  exact e1.trans hj
theorem src_8 {w : World} {g : Nat} (h : Blk w g (rp 8) 3) : 0 < (List.replicate 5 (Value.int .i64 1)).length → (some ⟨g, 8, none⟩ : Option Addr) = some ⟨g, 8, none⟩ ∧ ∃ ad, (some ⟨g, 0, none⟩ : Option Addr) = some ad ∧ ∀ j v, (List.replicate 5 (Value.int .i64 1))[j]? = some v → w.cell? (ad.add j) = some v := by
  intro _
  refine ⟨rfl, _, rfl, fun j v hj => ?_⟩
  have hjm : j < 5 := by have := (List.getElem?_eq_some_iff.1 hj).1; simpa using this
  rw [Addr.add_lit, Nat.zero_add, h.cell]
  have e1 : (rp 8)[j]? = (List.replicate 5 (Value.int .i64 1))[j]? := by
    unfold rp
    rw [List.getElem?_append_left (by simp; omega)]
    rw [List.getElem?_replicate, List.getElem?_replicate, if_pos (by omega), if_pos hjm]
  exact e1.trans hj
def RepSt (w wr : World) (v : Value) : Prop := ∃ k : Nat, (k = 1 ∨ k = 2 ∨ k = 4 ∨ k = 8 ∨ k = 13) ∧ v = .int .i64 k ∧ Blk wr w.heap.size (rp k) 3 ∧ Keeps Non w wr
set_option maxHeartbeats 4000000 in
set_option maxRecDepth 100000 in
theorem repeat_13 (b : Nat) (w : World) (h : Blk w b [.int .i64 1] 3) :
    Calls Try.prog 23 #[.slice (some ⟨b, 0, none⟩) 1 1, .int .i64 13] w fun e w' => ∃ g, e = .returned (.slice (some ⟨g, 0, none⟩) 13 13) ∧ w.heap.size ≤ g ∧ Blk w' g (List.replicate 13 (.int .i64 1)) 3 ∧ Keeps Non w w' := by
  have hm := make_13
  have hb := h.lt
  have H := hide h
  clear h
  go_enter Try.func23, Try.ntmps23
  go_wp2_with (first | (go_at_call 35; refine (mul_13 _).mono ?_; rintro e w' ⟨rfl, rfl⟩) | (refine wpList_copy_splice rfl (.tmp 31) (.tmp 32) 22 22 rfl 3 Try.underlying22 (by kernel_rfl) _ _ 13 13 1 1 rfl rfl w.heap.size 0 (rp 0) 3 (show _ = _ from Blk.new w (rp 0) 3) [.int .i64 1] rfl ?q1 (by decide) ?q2 w.heap.size w ((Below.refl _ _).alloc (Nat.le_refl _) _) (Nat.le_refl _) ?_))
  case q1 =>
    intro j v hj
    rw [H.out.cell]
    exact hj
  case q2 => intro v hv; simp at hv; subst hv; rfl
  intro w1 hg hb1
  have HK := hide (Keeps.of_below Non hb1)
  have HG : Hid (Blk w1 w.heap.size (rp 1) 3) := hg.out
  have hsz : w.heap.size < w1.heap.size := Blk.lt HG.out
  clear hg hb1
  go_wp2_with fail
  go_loopw [8] (fun v wr => RepSt w wr v) (fun v _ => 13 - (intOf v).toNat)
  case atStart => exact ⟨1, .inl rfl, rfl, HG.out, HK.out⟩
  case round =>
    obtain ⟨k, hk, rfl, hG, hKr⟩ := hrel
    have HG := hide hG
    have HKr := hide hKr
    clear hG hKr
    rcases hk with rfl | rfl | rfl | rfl | rfl
    · go_wp2_with fail
      go_region_law (refine step_copy_splice rfl (.tmp 41) (.tmp 44) 22 22 rfl 3 Try.underlying22 (by kernel_rfl) (some ⟨w.heap.size, 1, none⟩) (some ⟨w.heap.size, 0, none⟩) 12 12 1 13 (by simp [Act.eval, Act.put]) (by simp [Act.eval, Act.put]) w.heap.size 1 (rp 1) 3 HG.out.drew (List.replicate 1 (.int .i64 1)) rfl (src_1 HG.out.drew) (by decide) rep_one w.heap.size w HKr.out.drew.below (Nat.le_refl _) ?_; intro w2 hg2 hb2)
      have HG2 : Hid (Blk w2 w.heap.size (rp 2) 3) := hg2.out
      have HK2 := hide (Keeps.of_below Non hb2)
      clear hg2 hb2
      go_wp2
      go_roundw
      case rel =>
        (repeat apply Exists.intro)
        exact ⟨⟨2, by omega, rfl, HG2.out, HK2.out⟩, rfl⟩
      case measure => exact (show (13 - 2 : Nat) < 13 - 1 by omega)
    · go_wp2_with fail
      go_region_law (refine step_copy_splice rfl (.tmp 41) (.tmp 44) 22 22 rfl 3 Try.underlying22 (by kernel_rfl) (some ⟨w.heap.size, 2, none⟩) (some ⟨w.heap.size, 0, none⟩) 11 11 2 13 (by simp [Act.eval, Act.put]) (by simp [Act.eval, Act.put]) w.heap.size 2 (rp 2) 3 HG.out.drew (List.replicate 2 (.int .i64 1)) rfl (src_2 HG.out.drew) (by decide) rep_one w.heap.size w HKr.out.drew.below (Nat.le_refl _) ?_; intro w2 hg2 hb2)
      have HG2 : Hid (Blk w2 w.heap.size (rp 4) 3) := hg2.out
      have HK2 := hide (Keeps.of_below Non hb2)
      clear hg2 hb2
      go_wp2
      go_roundw
      case rel =>
        (repeat apply Exists.intro)
        exact ⟨⟨4, by omega, rfl, HG2.out, HK2.out⟩, rfl⟩
      case measure => exact (show (13 - 4 : Nat) < 13 - 2 by omega)
    · go_wp2_with fail
      go_region_law (refine step_copy_splice rfl (.tmp 41) (.tmp 44) 22 22 rfl 3 Try.underlying22 (by kernel_rfl) (some ⟨w.heap.size, 4, none⟩) (some ⟨w.heap.size, 0, none⟩) 9 9 4 13 (by simp [Act.eval, Act.put]) (by simp [Act.eval, Act.put]) w.heap.size 4 (rp 4) 3 HG.out.drew (List.replicate 4 (.int .i64 1)) rfl (src_4 HG.out.drew) (by decide) rep_one w.heap.size w HKr.out.drew.below (Nat.le_refl _) ?_; intro w2 hg2 hb2)
      have HG2 : Hid (Blk w2 w.heap.size (rp 8) 3) := hg2.out
      have HK2 := hide (Keeps.of_below Non hb2)
      clear hg2 hb2
      go_wp2
      go_roundw
      case rel =>
        (repeat apply Exists.intro)
        exact ⟨⟨8, by omega, rfl, HG2.out, HK2.out⟩, rfl⟩
      case measure => exact (show (13 - 8 : Nat) < 13 - 4 by omega)
    · go_wp2_with fail
      go_region_law (refine step_copy_splice rfl (.tmp 41) (.tmp 44) 22 22 rfl 3 Try.underlying22 (by kernel_rfl) (some ⟨w.heap.size, 8, none⟩) (some ⟨w.heap.size, 0, none⟩) 5 5 8 13 (by simp [Act.eval, Act.put]) (by simp [Act.eval, Act.put]) w.heap.size 8 (rp 8) 3 HG.out.drew (List.replicate 5 (.int .i64 1)) rfl (src_8 HG.out.drew) (by decide) rep_one w.heap.size w HKr.out.drew.below (Nat.le_refl _) ?_; intro w2 hg2 hb2)
      have HG2 : Hid (Blk w2 w.heap.size (rp 13) 3) := hg2.out
      have HK2 := hide (Keeps.of_below Non hb2)
      clear hg2 hb2
      go_wp2
      go_roundw
      case rel =>
        (repeat apply Exists.intro)
        exact ⟨⟨13, by omega, rfl, HG2.out, HK2.out⟩, rfl⟩
      case measure => exact (show (13 - 13 : Nat) < 13 - 8 by omega)
    · go_wp2
      go_ret
      exact ⟨_, rfl, Nat.le_refl _, HG.out, HKr.out⟩
theorem ne32n (w : World) : (binOp .neq 32 (.pointer none) (.pointer none)).run Try.prog w = .ok (.bool false) w := by kernel_rfl
/-- A timer that is none: nil, or the zero one. -/
def NoT (w : World) (p : Option Addr) : Prop := p = none ∨ ∃ b, p = some ⟨b, 0, none⟩ ∧ Blk w b [.int .i64 0, .int .i64 0, .int .i64 0, .bool false, .bool false] 50
theorem NoT.keeps {w w' : World} {p : Option Addr} (h : NoT w p) (k : Keeps Non w w') : NoT w' p := h.imp id fun ⟨b, e, hb⟩ => ⟨b, e, hb.keeps k id⟩
theorem is_not (p : Option Addr) (w : World) (h : NoT w p) :
    Calls Try.prog 34 #[.pointer p] w fun e w' => e = .returned (.bool false) ∧ w = w' := by
  have q := ne32
  have q2 := ne32n
  rcases h with rfl | ⟨b, rfl, hb⟩
  · go_enter Try.func34, Try.ntmps34
    go_wp2
    go_ret
    exact ⟨rfl, rfl⟩
  · have c4 : w.cell? ⟨b, 4, none⟩ = some (.bool false) := hb.cell 4
    clear hb
    go_enter Try.func34, Try.ntmps34
    go_wp2
    go_ret
    exact ⟨rfl, rfl⟩
theorem tick_not_one (p : Option Addr) (w : World) (h : NoT w p) :
    Calls Try.prog 15 #[.pointer p] w fun e w' => e = .returned (.tuple #[.int .i64 0, .bool false, .int .i64 1]) ∧ w = w' := by
  have H := hide h
  clear h
  go_enter Try.func15, Try.ntmps15
  go_wp2_with (go_at_call 34; refine (is_not p _ H.out).mono ?_; rintro e w' ⟨rfl, rfl⟩)
  go_ret3
  exact ⟨rfl, rfl⟩
theorem left_not_one (p : Option Addr) (w : World) (h : NoT w p) :
    Calls Try.prog 16 #[.pointer p] w fun e w' => e = .returned (.tuple #[.int .i64 0, .bool false]) ∧ w = w' := by
  have H := hide h
  clear h
  go_enter Try.func16, Try.ntmps16
  go_wp2_with (go_at_call 34; refine (is_not p _ H.out).mono ?_; rintro e w' ⟨rfl, rfl⟩)
  go_ret2
  exact ⟨rfl, rfl⟩
theorem at_not_one (p : Option Addr) (w : World) (h : NoT w p) :
    Calls Try.prog 17 #[.pointer p] w fun e w' => e = .returned (.int .i64 0) ∧ w = w' := by
  have H := hide h
  clear h
  go_enter Try.func17, Try.ntmps17
  go_wp2_with (go_at_call 34; refine (is_not p _ H.out).mono ?_; rintro e w' ⟨rfl, rfl⟩)
  go_ret
  exact ⟨rfl, rfl⟩
theorem fired_not_one (p : Option Addr) (w : World) (h : NoT w p) :
    Calls Try.prog 18 #[.pointer p] w fun e w' => e = .returned (.bool false) ∧ w = w' := by
  have H := hide h
  clear h
  go_enter Try.func18, Try.ntmps18
  go_wp2_with (go_at_call 34; refine (is_not p _ H.out).mono ?_; rintro e w' ⟨rfl, rfl⟩)
  go_ret
  exact ⟨rfl, rfl⟩
theorem enter_not_one (p : Option Addr) (v : Value) (w : World) (h : NoT w p) :
    Calls Try.prog 21 #[.pointer p, v] w fun e w' => e = .returned (.int .i64 1) ∧ w = w' := by
  have H := hide h
  clear h
  go_enter Try.func21, Try.ntmps21
  go_wp2_with (go_at_call 34; refine (is_not p _ H.out).mono ?_; rintro e w' ⟨rfl, rfl⟩)
  go_ret
  exact ⟨rfl, rfl⟩
theorem ticks_any (a : Option Addr) (n cap : Nat) (xs : List Int) (a2 : Option Addr) (n2 cap2 : Nat) (ys : List Int) (q : Int) (w : World) (h : Ints w a n xs) (h2 : Ints w a2 n2 ys) (hq0 : 0 ≤ q) (hq1 : q ≤ 60) :
    Calls Try.prog 22 #[.slice a n cap, .slice a2 n2 cap2, .int .i64 q] w fun e w' => e = .returned (.bool true) ∧ Keeps Non w w' := by
  by_cases hc : chk xs = 0
  · exact ticks_ok a n cap xs a2 n2 cap2 ys q w h h2 hc hq0 hq1
  · exact ticks_bad a n cap xs _ q w h hc
end Go.Proofs.Ytbgcglgbaekfeaa
