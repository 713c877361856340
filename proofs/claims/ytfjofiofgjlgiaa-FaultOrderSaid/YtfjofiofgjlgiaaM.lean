/-
  The walk over FaultOrder: it returns true, and turns nothing that was there. No condition.
-/
import Derived.Test.YtfjofiofgjlgiaaK
import Derived.Test.YtfjofiofgjlgiaaOnto
import Derived.Laws.StructEq
import Derived.Deep.RegionHeld3
import Derived.Deep.DeepCutAuto
namespace Go.Proofs.Ytfjofiofgjlgiaa
open Go.RowKit
attribute [local go_sem] onto_cell onto_frozen
theorem eqF (p0 p1 q0 q1 : Int) (w : World) : (binOp .eql 23 (.agg #[.int .u8 p0, .int .i64 p1]) (.agg #[.int .u8 q0, .int .i64 q1])).run Try.prog w = .ok (.bool (p0 == q0 && p1 == q1)) w := by
  have u3 := Try.underlying3
  have u5 := Try.underlying5
  have hS : Try.prog.underlying 23 = some (.struct (Try.prog.fieldsOf 23)) := by kernel_rfl
  have hp : Try.prog.stoodInHeld 23 = false := by kernel_rfl
  rw [run_eql_struct, show (10000 : Nat) = 9999 + 1 from rfl, run_equalIn_agg w 9999 23 _ _ hS hp]
  simp only [Program.fieldsOf, Try.underlying23]
  go_simp
  by_cases h1 : p0 = q0 <;> by_cases h2 : p1 = q1 <;> simp [h1, h2]
theorem guardF : ∀ w p0 p1 q0 q1, (eqGuard .eql 23 (.tmp 0) (.tmp 1) (.agg #[.int .u8 p0, .int .i64 p1]) (.agg #[.int .u8 q0, .int .i64 q1])).run Try.prog w = .ok () w := fun _ _ _ _ _ => by kernel_rfl
/-- Kind and number of the worse of two. -/
def wf0 (a0 a1 b0 b1 : Int) : Int := bif wK a0 a1 b0 b1 then b0 else a0
def wf1 (a0 a1 b0 b1 : Int) : Int := bif wK a0 a1 b0 b1 then b1 else a1
/-- What Worse leaves behind: three new blocks. -/
def three (w : World) (a0 a1 b0 b1 r0 r1 : Int) : World := ((w.alloc (.cells #[.int .u8 a0, .int .i64 a1] 23)).alloc (.cells #[.int .u8 b0, .int .i64 b1] 23)).alloc (.cells #[.int .u8 r0, .int .i64 r1] 23)
theorem worse_wf (a0 a1 b0 b1 : Int) (w : World) :
    Calls Try.prog 26 #[.agg #[.int .u8 a0, .int .i64 a1], .agg #[.int .u8 b0, .int .i64 b1]] w fun e w' => e = .returned (.agg #[.int .u8 (wf0 a0 a1 b0 b1), .int .i64 (wf1 a0 a1 b0 b1)]) ∧
      w' = ((w.alloc (.cells #[.int .u8 a0, .int .i64 a1] 23)).alloc (.cells #[.int .u8 b0, .int .i64 b1] 23)).alloc (.cells #[.int .u8 (wf0 a0 a1 b0 b1), .int .i64 (wf1 a0 a1 b0 b1)] 23) := by
  by_cases h : b0 < a0 ∨ b0 = a0 ∧ a1 < b1
  · have hw : wK a0 a1 b0 b1 = true := by simp [wK, h]
    have e0 : wf0 a0 a1 b0 b1 = b0 := by simp [wf0, hw]
    have e1 : wf1 a0 a1 b0 b1 = b1 := by simp [wf1, hw]
    rw [e0, e1]
    clear hw e0 e1
    by_cases h1 : b0 < a0
    · clear h
      go_enter Try.func26, Try.ntmps26
      go_wp2
      exact bodyPost_ret (v := .agg #[.int .u8 b0, .int .i64 b1]) (by simp [results, Try.results26, go_sem]) rfl ⟨rfl, rfl⟩
    · obtain ⟨rfl, h2⟩ := h.resolve_left h1
      clear h h1
      go_enter Try.func26, Try.ntmps26
      go_wp2
      exact bodyPost_ret (v := .agg #[.int .u8 b0, .int .i64 b1]) (by simp [results, Try.results26, go_sem]) rfl ⟨rfl, rfl⟩
  · have hw : wK a0 a1 b0 b1 = false := by simp [wK]; omega
    have e0 : wf0 a0 a1 b0 b1 = a0 := by simp [wf0, hw]
    have e1 : wf1 a0 a1 b0 b1 = a1 := by simp [wf1, hw]
    rw [e0, e1]
    have h1 : ¬ b0 < a0 := fun x => h (.inl x)
    by_cases h2 : b0 = a0
    · subst h2
      have h3 : ¬ a1 < b1 := fun x => h (.inr ⟨rfl, x⟩)
      clear hw e0 e1 h
      go_enter Try.func26, Try.ntmps26
      go_wp2
      exact bodyPost_ret (v := .agg #[.int .u8 b0, .int .i64 a1]) (by simp [results, Try.results26, go_sem]) rfl ⟨rfl, rfl⟩
    · clear hw e0 e1 h
      go_enter Try.func26, Try.ntmps26
      go_wp2
      exact bodyPost_ret (v := .agg #[.int .u8 a0, .int .i64 a1]) (by simp [results, Try.results26, go_sem]) rfl ⟨rfl, rfl⟩
theorem worse_wk (a0 a1 b0 b1 : Int) (w : World) :
    Calls Try.prog 26 #[.agg #[.int .u8 a0, .int .i64 a1], .agg #[.int .u8 b0, .int .i64 b1]] w fun e w' => e = .returned (.agg #[.int .u8 (wf0 a0 a1 b0 b1), .int .i64 (wf1 a0 a1 b0 b1)]) ∧ Keeps Non w w' :=
  (worse_wf a0 a1 b0 b1 w).mono fun e w' ⟨he, hw⟩ => ⟨he, by rw [hw]; exact (((Keeps.refl _ _).alloc _).alloc _).alloc _⟩
theorem wf_comm (a0 a1 b0 b1 : Int) : wf0 b0 b1 a0 a1 = wf0 a0 a1 b0 b1 ∧ wf1 b0 b1 a0 a1 = wf1 a0 a1 b0 b1 := by
  unfold wf0 wf1 wK
  simp only [Bool.cond_decide]
  constructor <;> (split <;> split <;> omega)
theorem wf_assoc (a0 a1 b0 b1 c0 c1 : Int) : wf0 (wf0 a0 a1 b0 b1) (wf1 a0 a1 b0 b1) c0 c1 = wf0 a0 a1 (wf0 b0 b1 c0 c1) (wf1 b0 b1 c0 c1) ∧ wf1 (wf0 a0 a1 b0 b1) (wf1 a0 a1 b0 b1) c0 c1 = wf1 a0 a1 (wf0 b0 b1 c0 c1) (wf1 b0 b1 c0 c1) := by
  unfold wf0 wf1 wK
  simp only [Bool.cond_decide]
  constructor <;> (repeat' split) <;> omega
theorem wf_self (a0 a1 : Int) : wf0 a0 a1 a0 a1 = a0 ∧ wf1 a0 a1 a0 a1 = a1 := by
  unfold wf0 wf1 wK
  simp

/-- Two slots point to two faults. -/
def TwoF (W : World) (x0 x1 y0 y1 : Int) (s t : Value) (w : World) : Prop :=
  ∃ b c : Nat, s = .pointer (some ⟨b, 0, none⟩) ∧ t = .pointer (some ⟨c, 0, none⟩) ∧ Blk w b [.int .u8 x0, .int .i64 x1] 23 ∧ Blk w c [.int .u8 y0, .int .i64 y1] 23 ∧ Keeps Non W w

set_option maxRecDepth 100000 in
set_option maxHeartbeats 1000000 in
theorem order_a1 (a0 a1 b0 b1 c0 c1 : Int) (h : a0 < b0) (w : World) :
    Calls Try.prog 6 #[.agg #[.int .u8 a0, .int .i64 a1], .agg #[.int .u8 b0, .int .i64 b1], .agg #[.int .u8 c0, .int .i64 c1]] w fun e w' => e = .returned (.bool true) ∧ Keeps Non w w' := by
  have ex0 : wf0 a0 a1 b0 b1 = a0 := by unfold wf0 wK; rw [Bool.cond_decide, if_neg (by omega)]
  have ex1 : wf1 a0 a1 b0 b1 = a1 := by unfold wf1 wK; rw [Bool.cond_decide, if_neg (by omega)]
  obtain ⟨eb0, eb1⟩ := wf_comm a0 a1 b0 b1
  rw [ex0] at eb0; rw [ex1] at eb1
  obtain ⟨y0, ey0⟩ : ∃ y, wf0 b0 b1 c0 c1 = y := ⟨_, rfl⟩
  obtain ⟨y1, ey1⟩ : ∃ y, wf1 b0 b1 c0 c1 = y := ⟨_, rfl⟩
  obtain ⟨z0, ez0⟩ : ∃ y, wf0 a0 a1 c0 c1 = y := ⟨_, rfl⟩
  obtain ⟨z1, ez1⟩ : ∃ y, wf1 a0 a1 c0 c1 = y := ⟨_, rfl⟩
  obtain ⟨as0, as1⟩ := wf_assoc a0 a1 b0 b1 c0 c1
  rw [ex0, ex1, ey0, ey1, ez0] at as0
  rw [ex0, ex1, ey0, ey1, ez1] at as1
  obtain ⟨es0, es1⟩ := wf_self a0 a1
  have e0 := as0.symm
  have e1 := as1.symm
  clear as0 as1
  have q := eqF
  go_enter Try.func6, Try.ntmps6
  go_wp2_with fail
  obtain ⟨W, hW⟩ : ∃ W, ((w.alloc (.cells #[.int .u8 a0, .int .i64 a1] 23)).alloc (.cells #[.int .u8 b0, .int .i64 b1] 23)).alloc (.cells #[.int .u8 c0, .int .i64 c1] 23) = W := ⟨_, rfl⟩
  have hk : Keeps Non w W := by rw [← hW]; exact (((Keeps.refl _ _).alloc _).alloc _).alloc _
  have ha : Blk W w.heap.size [.int .u8 a0, .int .i64 a1] 23 := by rw [← hW]; exact ((Blk.new w _ _).alloc _).alloc _
  have hb : Blk W (w.heap.size + 1) [.int .u8 b0, .int .i64 b1] 23 := by
    have := (Blk.new (w.alloc (.cells #[.int .u8 a0, .int .i64 a1] 23)) [.int .u8 b0, .int .i64 b1] 23).alloc (.cells #[.int .u8 c0, .int .i64 c1] 23)
    rw [← hW]; simpa using this
  have hc : Blk W (w.heap.size + 1 + 1) [.int .u8 c0, .int .i64 c1] 23 := by
    have := Blk.new ((w.alloc (.cells #[.int .u8 a0, .int .i64 a1] 23)).alloc (.cells #[.int .u8 b0, .int .i64 b1] 23)) [.int .u8 c0, .int .i64 c1] 23
    rw [← hW]; simpa using this
  rw [hW]
  clear hW
  have HS : Hid (∀ X, Keeps Non W X → Keeps Non W X ∧ X.cell? ⟨w.heap.size, 0, none⟩ = some (.int .u8 a0) ∧ X.cell? ⟨w.heap.size, 1, none⟩ = some (.int .i64 a1) ∧ X.cell? ⟨w.heap.size + 1, 0, none⟩ = some (.int .u8 b0) ∧ X.cell? ⟨w.heap.size + 1, 1, none⟩ = some (.int .i64 b1) ∧ X.cell? ⟨w.heap.size + 1 + 1, 0, none⟩ = some (.int .u8 c0) ∧ X.cell? ⟨w.heap.size + 1 + 1, 1, none⟩ = some (.int .i64 c1)) :=
    fun X hX => ⟨hX, (ha.keeps hX (fun x => x)).cell 0, (ha.keeps hX (fun x => x)).cell 1, (hb.keeps hX (fun x => x)).cell 0, (hb.keeps hX (fun x => x)).cell 1, (hc.keeps hX (fun x => x)).cell 0, (hc.keeps hX (fun x => x)).cell 1⟩
  have ha' := ha
  have hb' := hb
  have hc' := hc
  clear ha hb hc
  have la := ha'.lt
  have lb := hb'.lt
  have lc := hc'.lt
  go_upto_region 1 with fail
  go_cut [7, 8] (fun s7 s8 wx => TwoF W a0 a1 y0 y1 s7 s8 wx)
  case first =>
    go_region_held3 (fun w' => Keeps Non W w' ∧ w'.cell? ⟨w.heap.size, 0, none⟩ = some (.int .u8 a0) ∧ w'.cell? ⟨w.heap.size, 1, none⟩ = some (.int .i64 a1) ∧ w'.cell? ⟨w.heap.size + 1, 0, none⟩ = some (.int .u8 b0) ∧ w'.cell? ⟨w.heap.size + 1, 1, none⟩ = some (.int .i64 b1) ∧ w'.cell? ⟨w.heap.size + 1 + 1, 0, none⟩ = some (.int .u8 c0) ∧ w'.cell? ⟨w.heap.size + 1 + 1, 1, none⟩ = some (.int .i64 c1))
      (first | exact HS.out _ (by repeat (first | exact Keeps.refl _ _ | apply Keeps.alloc | apply Keeps.drew | (refine Keeps.setCell ?_ (.inr (by simp)) _))))
      (first | (go_at_call 26; refine (worse_wf _ _ _ _ _).mono ?_; rintro e w' ⟨rfl, rfl⟩))
    all_goals
      go_wp2_with fail
      go_meet
      refine ⟨_, _, rfl, rfl, ?_, ?_, ?_⟩
      · repeat (first | (refine Blk.newAt _ [_, _] _ ?_; simp; done) | apply Blk.alloc | apply Blk.drew)
      · repeat (first | (refine Blk.newAt _ [_, _] _ ?_; simp; done) | apply Blk.alloc | apply Blk.drew)
      · repeat (first | exact Keeps.refl _ _ | apply Keeps.alloc | apply Keeps.drew)
  case rest =>
    obtain ⟨b7, b8, rfl, rfl, h7, h8, hkc⟩ := hcut
    have ha3 := ha'.keeps hkc (fun x => x)
    have hb3 := hb'.keeps hkc (fun x => x)
    have hc3 := hc'.keeps hkc (fun x => x)
    have hkw := hk.then hkc
    clear ha' hb' hc' HS la lb lc hk hkc
    have hne : (a0 != b0) = true := by simp; omega
    have la := ha3.lt
    have lb := hb3.lt
    have lc := hc3.lt
    have l7 := h7.lt
    have l8 := h8.lt
    have ca0 : wc.cell? ⟨w.heap.size, 0, none⟩ = some (.int .u8 a0) := ha3.cell 0
    have ca1 : wc.cell? ⟨w.heap.size, 1, none⟩ = some (.int .i64 a1) := ha3.cell 1
    have cb0 : wc.cell? ⟨w.heap.size + 1, 0, none⟩ = some (.int .u8 b0) := hb3.cell 0
    have cb1 : wc.cell? ⟨w.heap.size + 1, 1, none⟩ = some (.int .i64 b1) := hb3.cell 1
    have cc0 : wc.cell? ⟨w.heap.size + 1 + 1, 0, none⟩ = some (.int .u8 c0) := hc3.cell 0
    have cc1 : wc.cell? ⟨w.heap.size + 1 + 1, 1, none⟩ = some (.int .i64 c1) := hc3.cell 1
    have c70 : wc.cell? ⟨b7, 0, none⟩ = some (.int .u8 a0) := h7.cell 0
    have c71 : wc.cell? ⟨b7, 1, none⟩ = some (.int .i64 a1) := h7.cell 1
    have c80 : wc.cell? ⟨b8, 0, none⟩ = some (.int .u8 y0) := h8.cell 0
    have c81 : wc.cell? ⟨b8, 1, none⟩ = some (.int .i64 y1) := h8.cell 1
    clear ha3 hb3 hc3 h7 h8
    go_wp2_with fail
    refine wp_region_onto (by kernel_rfl) (by kernel_rfl) ?_
    repeat (go_big_quiet_step (first | (go_at_call 26; exact onto_call (worse_wk _ _ _ _ _)) | (go_at_call 18; exact onto_call (awake_any _))))
    refine wpQuiet_nil ?_
    rintro _ ⟨u, rfl⟩
    have hkf := hkw.then (onto_keeps wc u)
    go_wp2
    go_ret
    exact ⟨rfl, hkf⟩
set_option maxRecDepth 100000 in
set_option maxHeartbeats 1000000 in
theorem order_b1 (a0 a1 b0 b1 c0 c1 : Int) (h : b0 < a0) (w : World) :
    Calls Try.prog 6 #[.agg #[.int .u8 a0, .int .i64 a1], .agg #[.int .u8 b0, .int .i64 b1], .agg #[.int .u8 c0, .int .i64 c1]] w fun e w' => e = .returned (.bool true) ∧ Keeps Non w w' := by
  have ex0 : wf0 a0 a1 b0 b1 = b0 := by unfold wf0 wK; rw [Bool.cond_decide, if_pos (by omega)]
  have ex1 : wf1 a0 a1 b0 b1 = b1 := by unfold wf1 wK; rw [Bool.cond_decide, if_pos (by omega)]
  obtain ⟨eb0, eb1⟩ := wf_comm a0 a1 b0 b1
  rw [ex0] at eb0; rw [ex1] at eb1
  obtain ⟨y0, ey0⟩ : ∃ y, wf0 b0 b1 c0 c1 = y := ⟨_, rfl⟩
  obtain ⟨y1, ey1⟩ : ∃ y, wf1 b0 b1 c0 c1 = y := ⟨_, rfl⟩
  obtain ⟨as0, as1⟩ := wf_assoc a0 a1 b0 b1 c0 c1
  rw [ex0, ex1, ey0, ey1] at as0
  rw [ex0, ex1, ey0, ey1] at as1
  obtain ⟨es0, es1⟩ := wf_self a0 a1
  have e0 := as0.symm
  have e1 := as1.symm
  clear as0 as1
  have q := eqF
  go_enter Try.func6, Try.ntmps6
  go_wp2_with fail
  obtain ⟨W, hW⟩ : ∃ W, ((w.alloc (.cells #[.int .u8 a0, .int .i64 a1] 23)).alloc (.cells #[.int .u8 b0, .int .i64 b1] 23)).alloc (.cells #[.int .u8 c0, .int .i64 c1] 23) = W := ⟨_, rfl⟩
  have hk : Keeps Non w W := by rw [← hW]; exact (((Keeps.refl _ _).alloc _).alloc _).alloc _
  have ha : Blk W w.heap.size [.int .u8 a0, .int .i64 a1] 23 := by rw [← hW]; exact ((Blk.new w _ _).alloc _).alloc _
  have hb : Blk W (w.heap.size + 1) [.int .u8 b0, .int .i64 b1] 23 := by
    have := (Blk.new (w.alloc (.cells #[.int .u8 a0, .int .i64 a1] 23)) [.int .u8 b0, .int .i64 b1] 23).alloc (.cells #[.int .u8 c0, .int .i64 c1] 23)
    rw [← hW]; simpa using this
  have hc : Blk W (w.heap.size + 1 + 1) [.int .u8 c0, .int .i64 c1] 23 := by
    have := Blk.new ((w.alloc (.cells #[.int .u8 a0, .int .i64 a1] 23)).alloc (.cells #[.int .u8 b0, .int .i64 b1] 23)) [.int .u8 c0, .int .i64 c1] 23
    rw [← hW]; simpa using this
  rw [hW]
  clear hW
  have HS : Hid (∀ X, Keeps Non W X → Keeps Non W X ∧ X.cell? ⟨w.heap.size, 0, none⟩ = some (.int .u8 a0) ∧ X.cell? ⟨w.heap.size, 1, none⟩ = some (.int .i64 a1) ∧ X.cell? ⟨w.heap.size + 1, 0, none⟩ = some (.int .u8 b0) ∧ X.cell? ⟨w.heap.size + 1, 1, none⟩ = some (.int .i64 b1) ∧ X.cell? ⟨w.heap.size + 1 + 1, 0, none⟩ = some (.int .u8 c0) ∧ X.cell? ⟨w.heap.size + 1 + 1, 1, none⟩ = some (.int .i64 c1)) :=
    fun X hX => ⟨hX, (ha.keeps hX (fun x => x)).cell 0, (ha.keeps hX (fun x => x)).cell 1, (hb.keeps hX (fun x => x)).cell 0, (hb.keeps hX (fun x => x)).cell 1, (hc.keeps hX (fun x => x)).cell 0, (hc.keeps hX (fun x => x)).cell 1⟩
  have ha' := ha
  have hb' := hb
  have hc' := hc
  clear ha hb hc
  have la := ha'.lt
  have lb := hb'.lt
  have lc := hc'.lt
  go_upto_region 1 with fail
  go_cut [7, 8] (fun s7 s8 wx => TwoF W b0 b1 y0 y1 s7 s8 wx)
  case first =>
    go_region_held3 (fun w' => Keeps Non W w' ∧ w'.cell? ⟨w.heap.size, 0, none⟩ = some (.int .u8 a0) ∧ w'.cell? ⟨w.heap.size, 1, none⟩ = some (.int .i64 a1) ∧ w'.cell? ⟨w.heap.size + 1, 0, none⟩ = some (.int .u8 b0) ∧ w'.cell? ⟨w.heap.size + 1, 1, none⟩ = some (.int .i64 b1) ∧ w'.cell? ⟨w.heap.size + 1 + 1, 0, none⟩ = some (.int .u8 c0) ∧ w'.cell? ⟨w.heap.size + 1 + 1, 1, none⟩ = some (.int .i64 c1))
      (first | exact HS.out _ (by repeat (first | exact Keeps.refl _ _ | apply Keeps.alloc | apply Keeps.drew | (refine Keeps.setCell ?_ (.inr (by simp)) _))))
      (first | (go_at_call 26; refine (worse_wf _ _ _ _ _).mono ?_; rintro e w' ⟨rfl, rfl⟩))
    all_goals
      go_wp2_with fail
      go_meet
      refine ⟨_, _, rfl, rfl, ?_, ?_, ?_⟩
      · repeat (first | (refine Blk.newAt _ [_, _] _ ?_; simp; done) | apply Blk.alloc | apply Blk.drew)
      · repeat (first | (refine Blk.newAt _ [_, _] _ ?_; simp; done) | apply Blk.alloc | apply Blk.drew)
      · repeat (first | exact Keeps.refl _ _ | apply Keeps.alloc | apply Keeps.drew)
  case rest =>
    obtain ⟨b7, b8, rfl, rfl, h7, h8, hkc⟩ := hcut
    have ha3 := ha'.keeps hkc (fun x => x)
    have hb3 := hb'.keeps hkc (fun x => x)
    have hc3 := hc'.keeps hkc (fun x => x)
    have hkw := hk.then hkc
    clear ha' hb' hc' HS la lb lc hk hkc
    have hne : (a0 != b0) = true := by simp; omega
    have hf : (b0 == a0) = false := by simp; omega
    have la := ha3.lt
    have lb := hb3.lt
    have lc := hc3.lt
    have l7 := h7.lt
    have l8 := h8.lt
    have ca0 : wc.cell? ⟨w.heap.size, 0, none⟩ = some (.int .u8 a0) := ha3.cell 0
    have ca1 : wc.cell? ⟨w.heap.size, 1, none⟩ = some (.int .i64 a1) := ha3.cell 1
    have cb0 : wc.cell? ⟨w.heap.size + 1, 0, none⟩ = some (.int .u8 b0) := hb3.cell 0
    have cb1 : wc.cell? ⟨w.heap.size + 1, 1, none⟩ = some (.int .i64 b1) := hb3.cell 1
    have cc0 : wc.cell? ⟨w.heap.size + 1 + 1, 0, none⟩ = some (.int .u8 c0) := hc3.cell 0
    have cc1 : wc.cell? ⟨w.heap.size + 1 + 1, 1, none⟩ = some (.int .i64 c1) := hc3.cell 1
    have c70 : wc.cell? ⟨b7, 0, none⟩ = some (.int .u8 b0) := h7.cell 0
    have c71 : wc.cell? ⟨b7, 1, none⟩ = some (.int .i64 b1) := h7.cell 1
    have c80 : wc.cell? ⟨b8, 0, none⟩ = some (.int .u8 y0) := h8.cell 0
    have c81 : wc.cell? ⟨b8, 1, none⟩ = some (.int .i64 y1) := h8.cell 1
    clear ha3 hb3 hc3 h7 h8
    go_wp2_with fail
    refine wp_region_onto (by kernel_rfl) (by kernel_rfl) ?_
    repeat (go_big_quiet_step (first | (go_at_call 26; exact onto_call (worse_wk _ _ _ _ _)) | (go_at_call 18; exact onto_call (awake_any _))))
    refine wpQuiet_nil ?_
    rintro _ ⟨u, rfl⟩
    have hkf := hkw.then (onto_keeps wc u)
    go_wp2
    go_ret
    exact ⟨rfl, hkf⟩
set_option maxRecDepth 100000 in
set_option maxHeartbeats 1000000 in
theorem order_a2 (a0 a1 b1 c0 c1 : Int) (h : b1 ≤ a1) (w : World) :
    Calls Try.prog 6 #[.agg #[.int .u8 a0, .int .i64 a1], .agg #[.int .u8 a0, .int .i64 b1], .agg #[.int .u8 c0, .int .i64 c1]] w fun e w' => e = .returned (.bool true) ∧ Keeps Non w w' := by
  have ex0 : wf0 a0 a1 a0 b1 = a0 := by unfold wf0 wK; rw [Bool.cond_decide, if_neg (by omega)]
  have ex1 : wf1 a0 a1 a0 b1 = a1 := by unfold wf1 wK; rw [Bool.cond_decide, if_neg (by omega)]
  obtain ⟨eb0, eb1⟩ := wf_comm a0 a1 a0 b1
  rw [ex0] at eb0; rw [ex1] at eb1
  obtain ⟨y0, ey0⟩ : ∃ y, wf0 a0 b1 c0 c1 = y := ⟨_, rfl⟩
  obtain ⟨y1, ey1⟩ : ∃ y, wf1 a0 b1 c0 c1 = y := ⟨_, rfl⟩
  obtain ⟨z0, ez0⟩ : ∃ y, wf0 a0 a1 c0 c1 = y := ⟨_, rfl⟩
  obtain ⟨z1, ez1⟩ : ∃ y, wf1 a0 a1 c0 c1 = y := ⟨_, rfl⟩
  obtain ⟨as0, as1⟩ := wf_assoc a0 a1 a0 b1 c0 c1
  rw [ex0, ex1, ey0, ey1, ez0] at as0
  rw [ex0, ex1, ey0, ey1, ez1] at as1
  obtain ⟨es0, es1⟩ := wf_self a0 a1
  have e0 := as0.symm
  have e1 := as1.symm
  clear as0 as1
  have q := eqF
  go_enter Try.func6, Try.ntmps6
  go_wp2_with fail
  obtain ⟨W, hW⟩ : ∃ W, ((w.alloc (.cells #[.int .u8 a0, .int .i64 a1] 23)).alloc (.cells #[.int .u8 a0, .int .i64 b1] 23)).alloc (.cells #[.int .u8 c0, .int .i64 c1] 23) = W := ⟨_, rfl⟩
  have hk : Keeps Non w W := by rw [← hW]; exact (((Keeps.refl _ _).alloc _).alloc _).alloc _
  have ha : Blk W w.heap.size [.int .u8 a0, .int .i64 a1] 23 := by rw [← hW]; exact ((Blk.new w _ _).alloc _).alloc _
  have hb : Blk W (w.heap.size + 1) [.int .u8 a0, .int .i64 b1] 23 := by
    have := (Blk.new (w.alloc (.cells #[.int .u8 a0, .int .i64 a1] 23)) [.int .u8 a0, .int .i64 b1] 23).alloc (.cells #[.int .u8 c0, .int .i64 c1] 23)
    rw [← hW]; simpa using this
  have hc : Blk W (w.heap.size + 1 + 1) [.int .u8 c0, .int .i64 c1] 23 := by
    have := Blk.new ((w.alloc (.cells #[.int .u8 a0, .int .i64 a1] 23)).alloc (.cells #[.int .u8 a0, .int .i64 b1] 23)) [.int .u8 c0, .int .i64 c1] 23
    rw [← hW]; simpa using this
  rw [hW]
  clear hW
  have HS : Hid (∀ X, Keeps Non W X → Keeps Non W X ∧ X.cell? ⟨w.heap.size, 0, none⟩ = some (.int .u8 a0) ∧ X.cell? ⟨w.heap.size, 1, none⟩ = some (.int .i64 a1) ∧ X.cell? ⟨w.heap.size + 1, 0, none⟩ = some (.int .u8 a0) ∧ X.cell? ⟨w.heap.size + 1, 1, none⟩ = some (.int .i64 b1) ∧ X.cell? ⟨w.heap.size + 1 + 1, 0, none⟩ = some (.int .u8 c0) ∧ X.cell? ⟨w.heap.size + 1 + 1, 1, none⟩ = some (.int .i64 c1)) :=
    fun X hX => ⟨hX, (ha.keeps hX (fun x => x)).cell 0, (ha.keeps hX (fun x => x)).cell 1, (hb.keeps hX (fun x => x)).cell 0, (hb.keeps hX (fun x => x)).cell 1, (hc.keeps hX (fun x => x)).cell 0, (hc.keeps hX (fun x => x)).cell 1⟩
  have ha' := ha
  have hb' := hb
  have hc' := hc
  clear ha hb hc
  have la := ha'.lt
  have lb := hb'.lt
  have lc := hc'.lt
  go_upto_region 1 with fail
  go_cut [7, 8] (fun s7 s8 wx => TwoF W a0 a1 y0 y1 s7 s8 wx)
  case first =>
    go_region_held3 (fun w' => Keeps Non W w' ∧ w'.cell? ⟨w.heap.size, 0, none⟩ = some (.int .u8 a0) ∧ w'.cell? ⟨w.heap.size, 1, none⟩ = some (.int .i64 a1) ∧ w'.cell? ⟨w.heap.size + 1, 0, none⟩ = some (.int .u8 a0) ∧ w'.cell? ⟨w.heap.size + 1, 1, none⟩ = some (.int .i64 b1) ∧ w'.cell? ⟨w.heap.size + 1 + 1, 0, none⟩ = some (.int .u8 c0) ∧ w'.cell? ⟨w.heap.size + 1 + 1, 1, none⟩ = some (.int .i64 c1))
      (first | exact HS.out _ (by repeat (first | exact Keeps.refl _ _ | apply Keeps.alloc | apply Keeps.drew | (refine Keeps.setCell ?_ (.inr (by simp)) _))))
      (first | (go_at_call 26; refine (worse_wf _ _ _ _ _).mono ?_; rintro e w' ⟨rfl, rfl⟩))
    all_goals
      go_wp2_with fail
      go_meet
      refine ⟨_, _, rfl, rfl, ?_, ?_, ?_⟩
      · repeat (first | (refine Blk.newAt _ [_, _] _ ?_; simp; done) | apply Blk.alloc | apply Blk.drew)
      · repeat (first | (refine Blk.newAt _ [_, _] _ ?_; simp; done) | apply Blk.alloc | apply Blk.drew)
      · repeat (first | exact Keeps.refl _ _ | apply Keeps.alloc | apply Keeps.drew)
  case rest =>
    obtain ⟨b7, b8, rfl, rfl, h7, h8, hkc⟩ := hcut
    have ha3 := ha'.keeps hkc (fun x => x)
    have hb3 := hb'.keeps hkc (fun x => x)
    have hc3 := hc'.keeps hkc (fun x => x)
    have hkw := hk.then hkc
    clear ha' hb' hc' HS la lb lc hk hkc
    have hne : (a0 != a0) = false := by simp
    have la := ha3.lt
    have lb := hb3.lt
    have lc := hc3.lt
    have l7 := h7.lt
    have l8 := h8.lt
    have ca0 : wc.cell? ⟨w.heap.size, 0, none⟩ = some (.int .u8 a0) := ha3.cell 0
    have ca1 : wc.cell? ⟨w.heap.size, 1, none⟩ = some (.int .i64 a1) := ha3.cell 1
    have cb0 : wc.cell? ⟨w.heap.size + 1, 0, none⟩ = some (.int .u8 a0) := hb3.cell 0
    have cb1 : wc.cell? ⟨w.heap.size + 1, 1, none⟩ = some (.int .i64 b1) := hb3.cell 1
    have cc0 : wc.cell? ⟨w.heap.size + 1 + 1, 0, none⟩ = some (.int .u8 c0) := hc3.cell 0
    have cc1 : wc.cell? ⟨w.heap.size + 1 + 1, 1, none⟩ = some (.int .i64 c1) := hc3.cell 1
    have c70 : wc.cell? ⟨b7, 0, none⟩ = some (.int .u8 a0) := h7.cell 0
    have c71 : wc.cell? ⟨b7, 1, none⟩ = some (.int .i64 a1) := h7.cell 1
    have c80 : wc.cell? ⟨b8, 0, none⟩ = some (.int .u8 y0) := h8.cell 0
    have c81 : wc.cell? ⟨b8, 1, none⟩ = some (.int .i64 y1) := h8.cell 1
    clear ha3 hb3 hc3 h7 h8
    go_wp2_with fail
    refine wp_region_onto (by kernel_rfl) (by kernel_rfl) ?_
    repeat (go_big_quiet_step (first | (go_at_call 26; exact onto_call (worse_wk _ _ _ _ _)) | (go_at_call 18; exact onto_call (awake_any _))))
    refine wpQuiet_nil ?_
    rintro _ ⟨u, rfl⟩
    have hkf := hkw.then (onto_keeps wc u)
    go_wp2
    go_ret
    exact ⟨rfl, hkf⟩
set_option maxRecDepth 100000 in
set_option maxHeartbeats 1000000 in
theorem order_b2 (a0 a1 b1 c0 c1 : Int) (h : a1 < b1) (w : World) :
    Calls Try.prog 6 #[.agg #[.int .u8 a0, .int .i64 a1], .agg #[.int .u8 a0, .int .i64 b1], .agg #[.int .u8 c0, .int .i64 c1]] w fun e w' => e = .returned (.bool true) ∧ Keeps Non w w' := by
  have ex0 : wf0 a0 a1 a0 b1 = a0 := by unfold wf0 wK; rw [Bool.cond_decide, if_pos (by omega)]
  have ex1 : wf1 a0 a1 a0 b1 = b1 := by unfold wf1 wK; rw [Bool.cond_decide, if_pos (by omega)]
  obtain ⟨eb0, eb1⟩ := wf_comm a0 a1 a0 b1
  rw [ex0] at eb0; rw [ex1] at eb1
  obtain ⟨y0, ey0⟩ : ∃ y, wf0 a0 b1 c0 c1 = y := ⟨_, rfl⟩
  obtain ⟨y1, ey1⟩ : ∃ y, wf1 a0 b1 c0 c1 = y := ⟨_, rfl⟩
  obtain ⟨as0, as1⟩ := wf_assoc a0 a1 a0 b1 c0 c1
  rw [ex0, ex1, ey0, ey1] at as0
  rw [ex0, ex1, ey0, ey1] at as1
  obtain ⟨es0, es1⟩ := wf_self a0 a1
  have e0 := as0.symm
  have e1 := as1.symm
  clear as0 as1
  have q := eqF
  go_enter Try.func6, Try.ntmps6
  go_wp2_with fail
  obtain ⟨W, hW⟩ : ∃ W, ((w.alloc (.cells #[.int .u8 a0, .int .i64 a1] 23)).alloc (.cells #[.int .u8 a0, .int .i64 b1] 23)).alloc (.cells #[.int .u8 c0, .int .i64 c1] 23) = W := ⟨_, rfl⟩
  have hk : Keeps Non w W := by rw [← hW]; exact (((Keeps.refl _ _).alloc _).alloc _).alloc _
  have ha : Blk W w.heap.size [.int .u8 a0, .int .i64 a1] 23 := by rw [← hW]; exact ((Blk.new w _ _).alloc _).alloc _
  have hb : Blk W (w.heap.size + 1) [.int .u8 a0, .int .i64 b1] 23 := by
    have := (Blk.new (w.alloc (.cells #[.int .u8 a0, .int .i64 a1] 23)) [.int .u8 a0, .int .i64 b1] 23).alloc (.cells #[.int .u8 c0, .int .i64 c1] 23)
    rw [← hW]; simpa using this
  have hc : Blk W (w.heap.size + 1 + 1) [.int .u8 c0, .int .i64 c1] 23 := by
    have := Blk.new ((w.alloc (.cells #[.int .u8 a0, .int .i64 a1] 23)).alloc (.cells #[.int .u8 a0, .int .i64 b1] 23)) [.int .u8 c0, .int .i64 c1] 23
    rw [← hW]; simpa using this
  rw [hW]
  clear hW
  have HS : Hid (∀ X, Keeps Non W X → Keeps Non W X ∧ X.cell? ⟨w.heap.size, 0, none⟩ = some (.int .u8 a0) ∧ X.cell? ⟨w.heap.size, 1, none⟩ = some (.int .i64 a1) ∧ X.cell? ⟨w.heap.size + 1, 0, none⟩ = some (.int .u8 a0) ∧ X.cell? ⟨w.heap.size + 1, 1, none⟩ = some (.int .i64 b1) ∧ X.cell? ⟨w.heap.size + 1 + 1, 0, none⟩ = some (.int .u8 c0) ∧ X.cell? ⟨w.heap.size + 1 + 1, 1, none⟩ = some (.int .i64 c1)) :=
    fun X hX => ⟨hX, (ha.keeps hX (fun x => x)).cell 0, (ha.keeps hX (fun x => x)).cell 1, (hb.keeps hX (fun x => x)).cell 0, (hb.keeps hX (fun x => x)).cell 1, (hc.keeps hX (fun x => x)).cell 0, (hc.keeps hX (fun x => x)).cell 1⟩
  have ha' := ha
  have hb' := hb
  have hc' := hc
  clear ha hb hc
  have la := ha'.lt
  have lb := hb'.lt
  have lc := hc'.lt
  go_upto_region 1 with fail
  go_cut [7, 8] (fun s7 s8 wx => TwoF W a0 b1 y0 y1 s7 s8 wx)
  case first =>
    go_region_held3 (fun w' => Keeps Non W w' ∧ w'.cell? ⟨w.heap.size, 0, none⟩ = some (.int .u8 a0) ∧ w'.cell? ⟨w.heap.size, 1, none⟩ = some (.int .i64 a1) ∧ w'.cell? ⟨w.heap.size + 1, 0, none⟩ = some (.int .u8 a0) ∧ w'.cell? ⟨w.heap.size + 1, 1, none⟩ = some (.int .i64 b1) ∧ w'.cell? ⟨w.heap.size + 1 + 1, 0, none⟩ = some (.int .u8 c0) ∧ w'.cell? ⟨w.heap.size + 1 + 1, 1, none⟩ = some (.int .i64 c1))
      (first | exact HS.out _ (by repeat (first | exact Keeps.refl _ _ | apply Keeps.alloc | apply Keeps.drew | (refine Keeps.setCell ?_ (.inr (by simp)) _))))
      (first | (go_at_call 26; refine (worse_wf _ _ _ _ _).mono ?_; rintro e w' ⟨rfl, rfl⟩))
    all_goals
      go_wp2_with fail
      go_meet
      refine ⟨_, _, rfl, rfl, ?_, ?_, ?_⟩
      · repeat (first | (refine Blk.newAt _ [_, _] _ ?_; simp; done) | apply Blk.alloc | apply Blk.drew)
      · repeat (first | (refine Blk.newAt _ [_, _] _ ?_; simp; done) | apply Blk.alloc | apply Blk.drew)
      · repeat (first | exact Keeps.refl _ _ | apply Keeps.alloc | apply Keeps.drew)
  case rest =>
    obtain ⟨b7, b8, rfl, rfl, h7, h8, hkc⟩ := hcut
    have ha3 := ha'.keeps hkc (fun x => x)
    have hb3 := hb'.keeps hkc (fun x => x)
    have hc3 := hc'.keeps hkc (fun x => x)
    have hkw := hk.then hkc
    clear ha' hb' hc' HS la lb lc hk hkc
    have hne : (a0 != a0) = false := by simp
    have hf : (b1 == a1) = false := by simp; omega
    have la := ha3.lt
    have lb := hb3.lt
    have lc := hc3.lt
    have l7 := h7.lt
    have l8 := h8.lt
    have ca0 : wc.cell? ⟨w.heap.size, 0, none⟩ = some (.int .u8 a0) := ha3.cell 0
    have ca1 : wc.cell? ⟨w.heap.size, 1, none⟩ = some (.int .i64 a1) := ha3.cell 1
    have cb0 : wc.cell? ⟨w.heap.size + 1, 0, none⟩ = some (.int .u8 a0) := hb3.cell 0
    have cb1 : wc.cell? ⟨w.heap.size + 1, 1, none⟩ = some (.int .i64 b1) := hb3.cell 1
    have cc0 : wc.cell? ⟨w.heap.size + 1 + 1, 0, none⟩ = some (.int .u8 c0) := hc3.cell 0
    have cc1 : wc.cell? ⟨w.heap.size + 1 + 1, 1, none⟩ = some (.int .i64 c1) := hc3.cell 1
    have c70 : wc.cell? ⟨b7, 0, none⟩ = some (.int .u8 a0) := h7.cell 0
    have c71 : wc.cell? ⟨b7, 1, none⟩ = some (.int .i64 b1) := h7.cell 1
    have c80 : wc.cell? ⟨b8, 0, none⟩ = some (.int .u8 y0) := h8.cell 0
    have c81 : wc.cell? ⟨b8, 1, none⟩ = some (.int .i64 y1) := h8.cell 1
    clear ha3 hb3 hc3 h7 h8
    go_wp2_with fail
    refine wp_region_onto (by kernel_rfl) (by kernel_rfl) ?_
    repeat (go_big_quiet_step (first | (go_at_call 26; exact onto_call (worse_wk _ _ _ _ _)) | (go_at_call 18; exact onto_call (awake_any _))))
    refine wpQuiet_nil ?_
    rintro _ ⟨u, rfl⟩
    have hkf := hkw.then (onto_keeps wc u)
    go_wp2
    go_ret
    exact ⟨rfl, hkf⟩
theorem law_order (a0 a1 b0 b1 c0 c1 : Int) (w : World) :
    Calls Try.prog 6 #[.agg #[.int .u8 a0, .int .i64 a1], .agg #[.int .u8 b0, .int .i64 b1], .agg #[.int .u8 c0, .int .i64 c1]] w fun e w' => e = .returned (.bool true) ∧ Keeps Non w w' := by
  rcases Int.lt_trichotomy a0 b0 with h | rfl | h
  · exact order_a1 a0 a1 b0 b1 c0 c1 h w
  · by_cases h : a1 < b1
    · exact order_b2 a0 a1 b1 c0 c1 h w
    · exact order_a2 a0 a1 b1 c0 c1 (by omega) w
  · exact order_b1 a0 a1 b0 b1 c0 c1 h w
end Go.Proofs.Ytfjofiofgjlgiaa
