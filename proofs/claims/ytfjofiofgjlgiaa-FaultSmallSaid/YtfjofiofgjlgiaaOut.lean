/-
  The closures of 'runs', called by outside. No condition.
-/
import Derived.Test.YtfjofiofgjlgiaaCl
namespace Go.Proofs.Ytfjofiofgjlgiaa
open Go.RowKit
attribute [local go_sem] onto_cell onto_frozen
/-- What is left behind a round's run. -/
structure R55 (w : World) (mb db : Nat) (f L U D x0 x1 : Int) (is : Bool) (V : Int) : Prop where
  hm : Mtr w mb f L U
  hd : Blk w db [.int .i64 D] 3
  hx : Blk w (db + 1) [.int .u8 x0, .int .i64 x1] 23
  hk : Blk w (db + 2) [.bool is] 4
  hf : Blk w (db + 3) [.int .i64 0] 25
  hv : Blk w (db + 4) [.int .i64 V] 3
theorem R55.below {w w' : World} {mb db B : Nat} {f L U D x0 x1 V : Int} {is : Bool} (h : R55 w mb db f L U D x0 x1 is V) (hb : Below B w w') (h1 : mb < B) (h2 : db + 4 < B) : R55 w' mb db f L U D x0 x1 is V :=
  ⟨Blk.below h.hm hb h1, h.hd.below hb (by omega), h.hx.below hb (by omega), h.hk.below hb (by omega), h.hf.below hb (by omega), h.hv.below hb h2⟩
def S55 (mb db : Nat) : Nat → Prop := fun i => i = mb ∨ (db ≤ i ∧ i ≤ db + 4)
def cap55 (ib pb sb db : Nat) : Array Value := #[.pointer (some ⟨ib, 0, none⟩), .pointer (some ⟨pb, 0, none⟩), .pointer (some ⟨sb, 0, none⟩), .pointer (some ⟨db, 0, none⟩), .pointer (some ⟨db + 1, 0, none⟩), .pointer (some ⟨db + 2, 0, none⟩), .pointer (some ⟨db + 3, 0, none⟩), .pointer (some ⟨db + 4, 0, none⟩)]
section
variable {w : World} {ib pb sb mb db : Nat} {i : Int} {a : Option Addr} {n cap : Nat} {xs : List Step3} {f l u L U D M : Int}
theorem f59_0 (hr : runS f xs l u 0 = (L, U, D, 0, M)) (h : Cl w ib pb sb mb db i a n cap xs f l u) :
    Calls Try.prog 59 (capD pb sb db) w fun e w' => (e = .returned (Value.int .i64 5)) ∧ Keeps (SD mb db) w w' ∧ RD mb db f L U D w' := by
  refine (f59_any h).mono ?_
  rintro e w' ⟨hE, hM, hD, hK⟩
  rw [hr] at hE hM hD
  rcases hE with ⟨_, rfl⟩ | ⟨h0, _⟩
  · exact ⟨rfl, hK, hM, hD⟩
  · simp at h0
theorem f59_f {K : Int} (hr : runS f xs l u 0 = (L, U, D, K, M)) (hk : K = 1 ∨ K = 2) (h : Cl w ib pb sb mb db i a n cap xs f l u) :
    Calls Try.prog 59 (capD pb sb db) w fun e w' => (∃ older, e = .panicked ({ v := .iface 23 (flt K M), recovered := false } :: older) ∧ NoExit older) ∧ Keeps (SD mb db) w w' ∧ RD mb db f L U D w' := by
  refine (f59_any h).mono ?_
  rintro e w' ⟨hE, hM, hD, hK⟩
  rw [hr] at hE hM hD
  rcases hE with ⟨h0, _⟩ | ⟨_, hE⟩
  · simp at h0; omega
  rcases hE with ⟨h0, _⟩ | ⟨_, rfl⟩ | ⟨h0, _⟩ | ⟨h0, _⟩
  · simp at h0; omega
  · exact ⟨⟨[], rfl, noExit_nil⟩, hK, hM, hD⟩
  · simp at h0; omega
  · simp at h0; omega
theorem f59_8 (hr : runS f xs l u 0 = (L, U, D, 8, M)) (h : Cl w ib pb sb mb db i a n cap xs f l u) :
    Calls Try.prog 59 (capD pb sb db) w fun e w' => (∃ v older, e = .panicked ({ v := .iface 8 v, recovered := false } :: older) ∧ NoExit older) ∧ Keeps (SD mb db) w w' ∧ RD mb db f L U D w' := by
  refine (f59_any h).mono ?_
  rintro e w' ⟨hE, hM, hD, hK⟩
  rw [hr] at hE hM hD
  rcases hE with ⟨h0, _⟩ | ⟨_, hE⟩
  · simp at h0
  rcases hE with ⟨h0, _⟩ | ⟨h0, _⟩ | ⟨_, v, rfl⟩ | ⟨h0, _⟩
  · simp at h0
  · simp at h0
  · exact ⟨⟨v, [], rfl, noExit_nil⟩, hK, hM, hD⟩
  · simp at h0
theorem f59_9 (hr : runS f xs l u 0 = (L, U, D, 9, M)) (h : Cl w ib pb sb mb db i a n cap xs f l u) :
    Calls Try.prog 59 (capD pb sb db) w fun e w' => (∃ older, e = .panicked ({ v := .iface 25 (.int .i64 350), recovered := false } :: older) ∧ NoExit older) ∧ Keeps (SD mb db) w w' ∧ RD mb db f L U D w' := by
  refine (f59_any h).mono ?_
  rintro e w' ⟨hE, hM, hD, hK⟩
  rw [hr] at hE hM hD
  rcases hE with ⟨h0, _⟩ | ⟨_, hE⟩
  · simp at h0
  rcases hE with ⟨h0, _⟩ | ⟨h0, _⟩ | ⟨h0, _⟩ | ⟨_, rfl⟩
  · simp at h0
  · simp at h0
  · simp at h0
  · exact ⟨⟨[], rfl, noExit_nil⟩, hK, hM, hD⟩
theorem c56_0 (hr : runS f xs l u 0 = (L, U, D, 0, M)) (h : Cl w ib pb sb mb db i a n cap xs f l u) :
    Calls Try.prog 13 #[.func (.func 56) #[] (capD pb sb db)] w fun e w' => e = .returned (.tuple #[.agg #[.int .u8 0, .int .i64 0], .bool false, .int .i64 0]) ∧ Keeps (SD mb db) w w' ∧ RD mb db f L U D w' :=
  (catch_ret 56 _ w (SD mb db) (RD mb db f L U D) (fun _ _ => by kernel_rfl) (fun k hk => by rcases hk with rfl | rfl; exact Blk.lt h.hm; exact h.hd.lt) (fun W0 hW => f56_0 hr (h.non hW))).mono fun e w' ⟨he, hk, W1, hR, hb⟩ => ⟨he, hk, hR.below hb (Blk.lt h.hm) h.hd.lt⟩
theorem c56_f {K : Int} (hr : runS f xs l u 0 = (L, U, D, K, M)) (hk : K = 1 ∨ K = 2) (h : Cl w ib pb sb mb db i a n cap xs f l u) :
    Calls Try.prog 13 #[.func (.func 56) #[] (capD pb sb db)] w fun e w' => e = .returned (.tuple #[.agg #[.int .u8 K, .int .i64 M], .bool true, .int .i64 0]) ∧ Keeps (SD mb db) w w' ∧ RD mb db f L U D w' :=
  (catch_fault 56 _ w (SD mb db) K M (RD mb db f L U D) (by unfold thereB; simp; omega) (fun _ _ => by kernel_rfl) (fun k hk => by rcases hk with rfl | rfl; exact Blk.lt h.hm; exact h.hd.lt) (fun W0 hW => f56_f hr hk (h.non hW))).mono fun e w' ⟨he, hk, W1, hR, hb⟩ => ⟨he, hk, hR.below hb (Blk.lt h.hm) h.hd.lt⟩
theorem c56_8 (hr : runS f xs l u 0 = (L, U, D, 8, M)) (h : Cl w ib pb sb mb db i a n cap xs f l u) :
    Calls Try.prog 13 #[.func (.func 56) #[] (capD pb sb db)] w fun e w' => (∃ v older, e = .panicked ({ v := .iface 8 v, recovered := false } :: older) ∧ NoExit older) ∧ Keeps (SD mb db) w w' ∧ RD mb db f L U D w' :=
  (catch_on 56 _ w (SD mb db) (RD mb db f L U D) (fun _ _ => by kernel_rfl) (fun W0 hW => f56_8 hr (h.non hW))).mono fun e w' ⟨he, hk, W1, hR, hb⟩ => ⟨he, hk, hR.below hb (Blk.lt h.hm) h.hd.lt⟩
theorem c56_9 (hr : runS f xs l u 0 = (L, U, D, 9, M)) (h : Cl w ib pb sb mb db i a n cap xs f l u) :
    Calls Try.prog 13 #[.func (.func 56) #[] (capD pb sb db)] w fun e w' => (∃ older, e = .panicked ({ v := .iface 25 (.int .i64 350), recovered := false } :: older) ∧ NoExit older) ∧ Keeps (SD mb db) w w' ∧ RD mb db f L U D w' :=
  (catch_on25 56 _ w (SD mb db) (RD mb db f L U D) (fun _ _ => by kernel_rfl) (fun W0 hW => f56_9 hr (h.non hW))).mono fun e w' ⟨he, hk, W1, hR, hb⟩ => ⟨he, hk, hR.below hb (Blk.lt h.hm) h.hd.lt⟩
theorem t59_0 (hr : runS f xs l u 0 = (L, U, D, 0, M)) (h : Cl w ib pb sb mb db i a n cap xs f l u) :
    Calls Try.prog 58 #[.func (.func 59) #[] (capD pb sb db)] w fun e w' => e = .returned (.tuple #[.int .i64 5, .agg #[.int .u8 0, .int .i64 0], .bool false, .int .i64 0]) ∧ Keeps (SD mb db) w w' ∧ RD mb db f L U D w' :=
  (tryI_ret 59 _ w (SD mb db) (RD mb db f L U D) 5 (fun _ _ => by kernel_rfl) (fun k hk => by rcases hk with rfl | rfl; exact Blk.lt h.hm; exact h.hd.lt) (fun W0 hW => f59_0 hr (h.non hW))).mono fun e w' ⟨he, hk, W1, hR, hb⟩ => ⟨he, hk, hR.below hb (Blk.lt h.hm) h.hd.lt⟩
theorem t59_f {K : Int} (hr : runS f xs l u 0 = (L, U, D, K, M)) (hk : K = 1 ∨ K = 2) (h : Cl w ib pb sb mb db i a n cap xs f l u) :
    Calls Try.prog 58 #[.func (.func 59) #[] (capD pb sb db)] w fun e w' => e = .returned (.tuple #[.int .i64 0, .agg #[.int .u8 K, .int .i64 M], .bool true, .int .i64 0]) ∧ Keeps (SD mb db) w w' ∧ RD mb db f L U D w' :=
  (tryI_fault 59 _ w (SD mb db) (RD mb db f L U D) K M (by unfold thereB; simp; omega) (fun _ _ => by kernel_rfl) (fun k hk => by rcases hk with rfl | rfl; exact Blk.lt h.hm; exact h.hd.lt) (fun W0 hW => f59_f hr hk (h.non hW))).mono fun e w' ⟨he, hk, W1, hR, hb⟩ => ⟨he, hk, hR.below hb (Blk.lt h.hm) h.hd.lt⟩
theorem t59_8 (hr : runS f xs l u 0 = (L, U, D, 8, M)) (h : Cl w ib pb sb mb db i a n cap xs f l u) :
    Calls Try.prog 58 #[.func (.func 59) #[] (capD pb sb db)] w fun e w' => (∃ v older, e = .panicked ({ v := .iface 8 v, recovered := false } :: older) ∧ NoExit older) ∧ Keeps (SD mb db) w w' ∧ RD mb db f L U D w' :=
  (tryI_on 59 _ w (SD mb db) (RD mb db f L U D) (fun _ _ => by kernel_rfl) (fun W0 hW => f59_8 hr (h.non hW))).mono fun e w' ⟨he, hk, W1, hR, hb⟩ => ⟨he, hk, hR.below hb (Blk.lt h.hm) h.hd.lt⟩
theorem t59_9 (hr : runS f xs l u 0 = (L, U, D, 9, M)) (h : Cl w ib pb sb mb db i a n cap xs f l u) :
    Calls Try.prog 58 #[.func (.func 59) #[] (capD pb sb db)] w fun e w' => (∃ older, e = .panicked ({ v := .iface 25 (.int .i64 350), recovered := false } :: older) ∧ NoExit older) ∧ Keeps (SD mb db) w w' ∧ RD mb db f L U D w' :=
  (tryI_on25 59 _ w (SD mb db) (RD mb db f L U D) (fun _ _ => by kernel_rfl) (fun W0 hW => f59_9 hr (h.non hW))).mono fun e w' ⟨he, hk, W1, hR, hb⟩ => ⟨he, hk, hR.below hb (Blk.lt h.hm) h.hd.lt⟩
set_option maxHeartbeats 2000000 in
theorem f55_e0 (hr : runS f xs l u 0 = (L, U, D, 0, M)) (h : Cl w ib pb sb mb db i a n cap xs f l u) (hp : (i % 2 == 0) = true) (hi : 0 ≤ i) :
    Calls Try.prog 55 (cap55 ib pb sb db) w fun e w' => (∃ v, e = .returned v) ∧ Keeps (S55 mb db) w w' ∧ R55 w' mb db f L U D 0 0 false 0 := by
  obtain ⟨o1, o2, o3, o4⟩ := h.ord
  have hmf : ∀ (fn : Fn) (first cap : Array Value) (w : World), (Instr.makeFunc fn first cap).run Try.prog w = .ok (.func fn first cap) w := fun _ _ _ _ => rfl
  have i0 : w.cell? ⟨ib, 0, none⟩ = some (.int .i64 i) := h.hi.cell 0
  have HC := hide (c56_0 hr h)
  have HX := hide h.hx
  have HK := hide h.hk
  have HF := hide h.hf
  have HV := hide h.hv
  clear h
  unfold capD at HC
  unfold cap55
  go_enter Try.func55, Try.ntmps55
  go_wp2_with fail
  refine HC.out.mono ?_
  rintro e w2 ⟨rfl, hk2, hR⟩
  have hx2 := HX.out.keeps hk2 (by unfold SD; omega)
  have hb2 := HK.out.keeps hk2 (by unfold SD; omega)
  have hf2 := HF.out.keeps hk2 (by unfold SD; omega)
  have hv2 := HV.out.keeps hk2 (by unfold SD; omega)
  have hk3 : Keeps (S55 mb db) w w2 := hk2.weak (fun j _ e => by unfold SD at e; unfold S55; omega)
  have H := hide (And.intro hx2 (And.intro hb2 (And.intro hf2 (And.intro hv2 (And.intro hk3 hR)))))
  have x0 := hx2.cell 0
  have x1 := hx2.cell 1
  have k0 := hb2.cell 0
  have f0 := hf2.cell 0
  have v0 := hv2.cell 0
  have fx0 := hx2.free 0 none
  have fx1 := hx2.free 1 none
  have fk0 := hb2.free 0 none
  have ff0 := hf2.free 0 none
  have fv0 := hv2.free 0 none
  have lx := hx2.lt
  have lv := hv2.lt
  simp only [List.getElem?_cons_zero, List.getElem?_cons_succ] at x0 x1 k0 f0 v0
  clear hx2 hb2 hf2 hv2 hk2 hk3 hR
  go_wp2
  first | go_end0 | refine bodyPost_ret (results_none rfl _ _ _) rfl ?_
  obtain ⟨h1, h2, h3, h4, h5, h6, h7⟩ := H.out
  refine ⟨⟨_, rfl⟩, ?_, ?_, ?_, ?_, ?_, ?_, ?_⟩
  · ((repeat (first | with_reducible exact h5 | with_reducible refine Keeps.alloc ?_ _ | with_reducible refine Keeps.drew ?_ | with_reducible refine Keeps.set ?_ (.inl ?_) _)); all_goals (unfold S55; omega))
  · unfold Mtr at *
    ((repeat (first | with_reducible exact h6 | with_reducible apply Blk.alloc | with_reducible apply Blk.drew | with_reducible apply blk_set | with_reducible apply Blk.other)); all_goals (first | exact rfl | (simp; done) | (simp; omega) | omega))
  · ((repeat (first | with_reducible exact h7 | with_reducible apply Blk.alloc | with_reducible apply Blk.drew | with_reducible apply blk_set | with_reducible apply Blk.other)); all_goals (first | exact rfl | (simp; done) | (simp; omega) | omega))
  · ((repeat (first | with_reducible exact h1 | with_reducible apply Blk.alloc | with_reducible apply Blk.drew | with_reducible apply blk_set | with_reducible apply Blk.other)); all_goals (first | exact rfl | (simp; done) | (simp; omega) | omega))
  · ((repeat (first | with_reducible exact h2 | with_reducible apply Blk.alloc | with_reducible apply Blk.drew | with_reducible apply blk_set | with_reducible apply Blk.other)); all_goals (first | exact rfl | (simp; done) | (simp; omega) | omega))
  · ((repeat (first | with_reducible exact h3 | with_reducible apply Blk.alloc | with_reducible apply Blk.drew | with_reducible apply blk_set | with_reducible apply Blk.other)); all_goals (first | exact rfl | (simp; done) | (simp; omega) | omega))
  · ((repeat (first | with_reducible exact h4 | with_reducible apply Blk.alloc | with_reducible apply Blk.drew | with_reducible apply blk_set | with_reducible apply Blk.other)); all_goals (first | exact rfl | (simp; done) | (simp; omega) | omega))
set_option maxHeartbeats 2000000 in
theorem f55_ef {K : Int} (hr : runS f xs l u 0 = (L, U, D, K, M)) (hk : K = 1 ∨ K = 2) (h : Cl w ib pb sb mb db i a n cap xs f l u) (hp : (i % 2 == 0) = true) (hi : 0 ≤ i) :
    Calls Try.prog 55 (cap55 ib pb sb db) w fun e w' => (∃ v, e = .returned v) ∧ Keeps (S55 mb db) w w' ∧ R55 w' mb db f L U D K M true 0 := by
  obtain ⟨o1, o2, o3, o4⟩ := h.ord
  have hmf : ∀ (fn : Fn) (first cap : Array Value) (w : World), (Instr.makeFunc fn first cap).run Try.prog w = .ok (.func fn first cap) w := fun _ _ _ _ => rfl
  have i0 : w.cell? ⟨ib, 0, none⟩ = some (.int .i64 i) := h.hi.cell 0
  have HC := hide (c56_f hr hk h)
  have HX := hide h.hx
  have HK := hide h.hk
  have HF := hide h.hf
  have HV := hide h.hv
  clear h
  unfold capD at HC
  unfold cap55
  go_enter Try.func55, Try.ntmps55
  go_wp2_with fail
  refine HC.out.mono ?_
  rintro e w2 ⟨rfl, hk2, hR⟩
  have hx2 := HX.out.keeps hk2 (by unfold SD; omega)
  have hb2 := HK.out.keeps hk2 (by unfold SD; omega)
  have hf2 := HF.out.keeps hk2 (by unfold SD; omega)
  have hv2 := HV.out.keeps hk2 (by unfold SD; omega)
  have hk3 : Keeps (S55 mb db) w w2 := hk2.weak (fun j _ e => by unfold SD at e; unfold S55; omega)
  have H := hide (And.intro hx2 (And.intro hb2 (And.intro hf2 (And.intro hv2 (And.intro hk3 hR)))))
  have x0 := hx2.cell 0
  have x1 := hx2.cell 1
  have k0 := hb2.cell 0
  have f0 := hf2.cell 0
  have v0 := hv2.cell 0
  have fx0 := hx2.free 0 none
  have fx1 := hx2.free 1 none
  have fk0 := hb2.free 0 none
  have ff0 := hf2.free 0 none
  have fv0 := hv2.free 0 none
  have lx := hx2.lt
  have lv := hv2.lt
  simp only [List.getElem?_cons_zero, List.getElem?_cons_succ] at x0 x1 k0 f0 v0
  clear hx2 hb2 hf2 hv2 hk2 hk3 hR
  go_wp2
  first | go_end0 | refine bodyPost_ret (results_none rfl _ _ _) rfl ?_
  obtain ⟨h1, h2, h3, h4, h5, h6, h7⟩ := H.out
  refine ⟨⟨_, rfl⟩, ?_, ?_, ?_, ?_, ?_, ?_, ?_⟩
  · ((repeat (first | with_reducible exact h5 | with_reducible refine Keeps.alloc ?_ _ | with_reducible refine Keeps.drew ?_ | with_reducible refine Keeps.set ?_ (.inl ?_) _)); all_goals (unfold S55; omega))
  · unfold Mtr at *
    ((repeat (first | with_reducible exact h6 | with_reducible apply Blk.alloc | with_reducible apply Blk.drew | with_reducible apply blk_set | with_reducible apply Blk.other)); all_goals (first | exact rfl | (simp; done) | (simp; omega) | omega))
  · ((repeat (first | with_reducible exact h7 | with_reducible apply Blk.alloc | with_reducible apply Blk.drew | with_reducible apply blk_set | with_reducible apply Blk.other)); all_goals (first | exact rfl | (simp; done) | (simp; omega) | omega))
  · ((repeat (first | with_reducible exact h1 | with_reducible apply Blk.alloc | with_reducible apply Blk.drew | with_reducible apply blk_set | with_reducible apply Blk.other)); all_goals (first | exact rfl | (simp; done) | (simp; omega) | omega))
  · ((repeat (first | with_reducible exact h2 | with_reducible apply Blk.alloc | with_reducible apply Blk.drew | with_reducible apply blk_set | with_reducible apply Blk.other)); all_goals (first | exact rfl | (simp; done) | (simp; omega) | omega))
  · ((repeat (first | with_reducible exact h3 | with_reducible apply Blk.alloc | with_reducible apply Blk.drew | with_reducible apply blk_set | with_reducible apply Blk.other)); all_goals (first | exact rfl | (simp; done) | (simp; omega) | omega))
  · ((repeat (first | with_reducible exact h4 | with_reducible apply Blk.alloc | with_reducible apply Blk.drew | with_reducible apply blk_set | with_reducible apply Blk.other)); all_goals (first | exact rfl | (simp; done) | (simp; omega) | omega))
set_option maxHeartbeats 2000000 in
theorem f55_e8 (hr : runS f xs l u 0 = (L, U, D, 8, M)) (h : Cl w ib pb sb mb db i a n cap xs f l u) (hp : (i % 2 == 0) = true) (hi : 0 ≤ i) :
    Calls Try.prog 55 (cap55 ib pb sb db) w fun e w' => (∃ v older, e = .panicked ({ v := .iface 8 v, recovered := false } :: older) ∧ NoExit older) ∧ Keeps (S55 mb db) w w' ∧ R55 w' mb db f L U D 0 0 false 0 := by
  obtain ⟨o1, o2, o3, o4⟩ := h.ord
  have hmf : ∀ (fn : Fn) (first cap : Array Value) (w : World), (Instr.makeFunc fn first cap).run Try.prog w = .ok (.func fn first cap) w := fun _ _ _ _ => rfl
  have i0 : w.cell? ⟨ib, 0, none⟩ = some (.int .i64 i) := h.hi.cell 0
  have HC := hide (c56_8 hr h)
  have HX := hide h.hx
  have HK := hide h.hk
  have HF := hide h.hf
  have HV := hide h.hv
  clear h
  unfold capD at HC
  unfold cap55
  go_enter Try.func55, Try.ntmps55
  go_wp2_with fail
  refine HC.out.mono ?_
  rintro e w2 ⟨⟨v, older, rfl, hno⟩, hk2, hR⟩
  have hx2 := HX.out.keeps hk2 (by unfold SD; omega)
  have hb2 := HK.out.keeps hk2 (by unfold SD; omega)
  have hf2 := HF.out.keeps hk2 (by unfold SD; omega)
  have hv2 := HV.out.keeps hk2 (by unfold SD; omega)
  have hk3 : Keeps (S55 mb db) w w2 := hk2.weak (fun j _ e => by unfold SD at e; unfold S55; omega)
  have H := hide (And.intro hx2 (And.intro hb2 (And.intro hf2 (And.intro hv2 (And.intro hk3 hR)))))
  have HN := hide hno
  clear hno
  clear hx2 hb2 hf2 hv2 hk2 hk3 hR
  go_wp2
  exact ⟨rfl, ⟨v, older, rfl, HN.out⟩, H.out.2.2.2.2.1, H.out.2.2.2.2.2.1, H.out.2.2.2.2.2.2, H.out.1, H.out.2.1, H.out.2.2.1, H.out.2.2.2.1⟩
set_option maxHeartbeats 2000000 in
theorem f55_e9 (hr : runS f xs l u 0 = (L, U, D, 9, M)) (h : Cl w ib pb sb mb db i a n cap xs f l u) (hp : (i % 2 == 0) = true) (hi : 0 ≤ i) :
    Calls Try.prog 55 (cap55 ib pb sb db) w fun e w' => (∃ older, e = .panicked ({ v := .iface 25 (.int .i64 350), recovered := false } :: older) ∧ NoExit older) ∧ Keeps (S55 mb db) w w' ∧ R55 w' mb db f L U D 0 0 false 0 := by
  obtain ⟨o1, o2, o3, o4⟩ := h.ord
  have hmf : ∀ (fn : Fn) (first cap : Array Value) (w : World), (Instr.makeFunc fn first cap).run Try.prog w = .ok (.func fn first cap) w := fun _ _ _ _ => rfl
  have i0 : w.cell? ⟨ib, 0, none⟩ = some (.int .i64 i) := h.hi.cell 0
  have HC := hide (c56_9 hr h)
  have HX := hide h.hx
  have HK := hide h.hk
  have HF := hide h.hf
  have HV := hide h.hv
  clear h
  unfold capD at HC
  unfold cap55
  go_enter Try.func55, Try.ntmps55
  go_wp2_with fail
  refine HC.out.mono ?_
  rintro e w2 ⟨⟨older, rfl, hno⟩, hk2, hR⟩
  have hx2 := HX.out.keeps hk2 (by unfold SD; omega)
  have hb2 := HK.out.keeps hk2 (by unfold SD; omega)
  have hf2 := HF.out.keeps hk2 (by unfold SD; omega)
  have hv2 := HV.out.keeps hk2 (by unfold SD; omega)
  have hk3 : Keeps (S55 mb db) w w2 := hk2.weak (fun j _ e => by unfold SD at e; unfold S55; omega)
  have H := hide (And.intro hx2 (And.intro hb2 (And.intro hf2 (And.intro hv2 (And.intro hk3 hR)))))
  have HN := hide hno
  clear hno
  clear hx2 hb2 hf2 hv2 hk2 hk3 hR
  go_wp2
  exact ⟨rfl, ⟨older, rfl, HN.out⟩, H.out.2.2.2.2.1, H.out.2.2.2.2.2.1, H.out.2.2.2.2.2.2, H.out.1, H.out.2.1, H.out.2.2.1, H.out.2.2.2.1⟩
set_option maxHeartbeats 2000000 in
theorem f55_o0 (hr : runS f xs l u 0 = (L, U, D, 0, M)) (h : Cl w ib pb sb mb db i a n cap xs f l u) (hp : (i % 2 == 0) = false) (hi : 0 ≤ i) :
    Calls Try.prog 55 (cap55 ib pb sb db) w fun e w' => (∃ v, e = .returned v) ∧ Keeps (S55 mb db) w w' ∧ R55 w' mb db f L U D 0 0 false 5 := by
  obtain ⟨o1, o2, o3, o4⟩ := h.ord
  have hmf : ∀ (fn : Fn) (first cap : Array Value) (w : World), (Instr.makeFunc fn first cap).run Try.prog w = .ok (.func fn first cap) w := fun _ _ _ _ => rfl
  have i0 : w.cell? ⟨ib, 0, none⟩ = some (.int .i64 i) := h.hi.cell 0
  have HC := hide (t59_0 hr h)
  have HX := hide h.hx
  have HK := hide h.hk
  have HF := hide h.hf
  have HV := hide h.hv
  clear h
  unfold capD at HC
  unfold cap55
  go_enter Try.func55, Try.ntmps55
  go_wp2_with fail
  refine HC.out.mono ?_
  rintro e w2 ⟨rfl, hk2, hR⟩
  have hx2 := HX.out.keeps hk2 (by unfold SD; omega)
  have hb2 := HK.out.keeps hk2 (by unfold SD; omega)
  have hf2 := HF.out.keeps hk2 (by unfold SD; omega)
  have hv2 := HV.out.keeps hk2 (by unfold SD; omega)
  have hk3 : Keeps (S55 mb db) w w2 := hk2.weak (fun j _ e => by unfold SD at e; unfold S55; omega)
  have H := hide (And.intro hx2 (And.intro hb2 (And.intro hf2 (And.intro hv2 (And.intro hk3 hR)))))
  have x0 := hx2.cell 0
  have x1 := hx2.cell 1
  have k0 := hb2.cell 0
  have f0 := hf2.cell 0
  have v0 := hv2.cell 0
  have fx0 := hx2.free 0 none
  have fx1 := hx2.free 1 none
  have fk0 := hb2.free 0 none
  have ff0 := hf2.free 0 none
  have fv0 := hv2.free 0 none
  have lx := hx2.lt
  have lv := hv2.lt
  simp only [List.getElem?_cons_zero, List.getElem?_cons_succ] at x0 x1 k0 f0 v0
  clear hx2 hb2 hf2 hv2 hk2 hk3 hR
  go_wp2
  first | go_end0 | refine bodyPost_ret (results_none rfl _ _ _) rfl ?_
  obtain ⟨h1, h2, h3, h4, h5, h6, h7⟩ := H.out
  refine ⟨⟨_, rfl⟩, ?_, ?_, ?_, ?_, ?_, ?_, ?_⟩
  · ((repeat (first | with_reducible exact h5 | with_reducible refine Keeps.alloc ?_ _ | with_reducible refine Keeps.drew ?_ | with_reducible refine Keeps.set ?_ (.inl ?_) _)); all_goals (unfold S55; omega))
  · unfold Mtr at *
    ((repeat (first | with_reducible exact h6 | with_reducible apply Blk.alloc | with_reducible apply Blk.drew | with_reducible apply blk_set | with_reducible apply Blk.other)); all_goals (first | exact rfl | (simp; done) | (simp; omega) | omega))
  · ((repeat (first | with_reducible exact h7 | with_reducible apply Blk.alloc | with_reducible apply Blk.drew | with_reducible apply blk_set | with_reducible apply Blk.other)); all_goals (first | exact rfl | (simp; done) | (simp; omega) | omega))
  · ((repeat (first | with_reducible exact h1 | with_reducible apply Blk.alloc | with_reducible apply Blk.drew | with_reducible apply blk_set | with_reducible apply Blk.other)); all_goals (first | exact rfl | (simp; done) | (simp; omega) | omega))
  · ((repeat (first | with_reducible exact h2 | with_reducible apply Blk.alloc | with_reducible apply Blk.drew | with_reducible apply blk_set | with_reducible apply Blk.other)); all_goals (first | exact rfl | (simp; done) | (simp; omega) | omega))
  · ((repeat (first | with_reducible exact h3 | with_reducible apply Blk.alloc | with_reducible apply Blk.drew | with_reducible apply blk_set | with_reducible apply Blk.other)); all_goals (first | exact rfl | (simp; done) | (simp; omega) | omega))
  · ((repeat (first | with_reducible exact h4 | with_reducible apply Blk.alloc | with_reducible apply Blk.drew | with_reducible apply blk_set | with_reducible apply Blk.other)); all_goals (first | exact rfl | (simp; done) | (simp; omega) | omega))
set_option maxHeartbeats 2000000 in
theorem f55_of {K : Int} (hr : runS f xs l u 0 = (L, U, D, K, M)) (hk : K = 1 ∨ K = 2) (h : Cl w ib pb sb mb db i a n cap xs f l u) (hp : (i % 2 == 0) = false) (hi : 0 ≤ i) :
    Calls Try.prog 55 (cap55 ib pb sb db) w fun e w' => (∃ v, e = .returned v) ∧ Keeps (S55 mb db) w w' ∧ R55 w' mb db f L U D K M true 0 := by
  obtain ⟨o1, o2, o3, o4⟩ := h.ord
  have hmf : ∀ (fn : Fn) (first cap : Array Value) (w : World), (Instr.makeFunc fn first cap).run Try.prog w = .ok (.func fn first cap) w := fun _ _ _ _ => rfl
  have i0 : w.cell? ⟨ib, 0, none⟩ = some (.int .i64 i) := h.hi.cell 0
  have HC := hide (t59_f hr hk h)
  have HX := hide h.hx
  have HK := hide h.hk
  have HF := hide h.hf
  have HV := hide h.hv
  clear h
  unfold capD at HC
  unfold cap55
  go_enter Try.func55, Try.ntmps55
  go_wp2_with fail
  refine HC.out.mono ?_
  rintro e w2 ⟨rfl, hk2, hR⟩
  have hx2 := HX.out.keeps hk2 (by unfold SD; omega)
  have hb2 := HK.out.keeps hk2 (by unfold SD; omega)
  have hf2 := HF.out.keeps hk2 (by unfold SD; omega)
  have hv2 := HV.out.keeps hk2 (by unfold SD; omega)
  have hk3 : Keeps (S55 mb db) w w2 := hk2.weak (fun j _ e => by unfold SD at e; unfold S55; omega)
  have H := hide (And.intro hx2 (And.intro hb2 (And.intro hf2 (And.intro hv2 (And.intro hk3 hR)))))
  have x0 := hx2.cell 0
  have x1 := hx2.cell 1
  have k0 := hb2.cell 0
  have f0 := hf2.cell 0
  have v0 := hv2.cell 0
  have fx0 := hx2.free 0 none
  have fx1 := hx2.free 1 none
  have fk0 := hb2.free 0 none
  have ff0 := hf2.free 0 none
  have fv0 := hv2.free 0 none
  have lx := hx2.lt
  have lv := hv2.lt
  simp only [List.getElem?_cons_zero, List.getElem?_cons_succ] at x0 x1 k0 f0 v0
  clear hx2 hb2 hf2 hv2 hk2 hk3 hR
  go_wp2
  first | go_end0 | refine bodyPost_ret (results_none rfl _ _ _) rfl ?_
  obtain ⟨h1, h2, h3, h4, h5, h6, h7⟩ := H.out
  refine ⟨⟨_, rfl⟩, ?_, ?_, ?_, ?_, ?_, ?_, ?_⟩
  · ((repeat (first | with_reducible exact h5 | with_reducible refine Keeps.alloc ?_ _ | with_reducible refine Keeps.drew ?_ | with_reducible refine Keeps.set ?_ (.inl ?_) _)); all_goals (unfold S55; omega))
  · unfold Mtr at *
    ((repeat (first | with_reducible exact h6 | with_reducible apply Blk.alloc | with_reducible apply Blk.drew | with_reducible apply blk_set | with_reducible apply Blk.other)); all_goals (first | exact rfl | (simp; done) | (simp; omega) | omega))
  · ((repeat (first | with_reducible exact h7 | with_reducible apply Blk.alloc | with_reducible apply Blk.drew | with_reducible apply blk_set | with_reducible apply Blk.other)); all_goals (first | exact rfl | (simp; done) | (simp; omega) | omega))
  · ((repeat (first | with_reducible exact h1 | with_reducible apply Blk.alloc | with_reducible apply Blk.drew | with_reducible apply blk_set | with_reducible apply Blk.other)); all_goals (first | exact rfl | (simp; done) | (simp; omega) | omega))
  · ((repeat (first | with_reducible exact h2 | with_reducible apply Blk.alloc | with_reducible apply Blk.drew | with_reducible apply blk_set | with_reducible apply Blk.other)); all_goals (first | exact rfl | (simp; done) | (simp; omega) | omega))
  · ((repeat (first | with_reducible exact h3 | with_reducible apply Blk.alloc | with_reducible apply Blk.drew | with_reducible apply blk_set | with_reducible apply Blk.other)); all_goals (first | exact rfl | (simp; done) | (simp; omega) | omega))
  · ((repeat (first | with_reducible exact h4 | with_reducible apply Blk.alloc | with_reducible apply Blk.drew | with_reducible apply blk_set | with_reducible apply Blk.other)); all_goals (first | exact rfl | (simp; done) | (simp; omega) | omega))
set_option maxHeartbeats 2000000 in
theorem f55_o8 (hr : runS f xs l u 0 = (L, U, D, 8, M)) (h : Cl w ib pb sb mb db i a n cap xs f l u) (hp : (i % 2 == 0) = false) (hi : 0 ≤ i) :
    Calls Try.prog 55 (cap55 ib pb sb db) w fun e w' => (∃ v older, e = .panicked ({ v := .iface 8 v, recovered := false } :: older) ∧ NoExit older) ∧ Keeps (S55 mb db) w w' ∧ R55 w' mb db f L U D 0 0 false 0 := by
  obtain ⟨o1, o2, o3, o4⟩ := h.ord
  have hmf : ∀ (fn : Fn) (first cap : Array Value) (w : World), (Instr.makeFunc fn first cap).run Try.prog w = .ok (.func fn first cap) w := fun _ _ _ _ => rfl
  have i0 : w.cell? ⟨ib, 0, none⟩ = some (.int .i64 i) := h.hi.cell 0
  have HC := hide (t59_8 hr h)
  have HX := hide h.hx
  have HK := hide h.hk
  have HF := hide h.hf
  have HV := hide h.hv
  clear h
  unfold capD at HC
  unfold cap55
  go_enter Try.func55, Try.ntmps55
  go_wp2_with fail
  refine HC.out.mono ?_
  rintro e w2 ⟨⟨v, older, rfl, hno⟩, hk2, hR⟩
  have hx2 := HX.out.keeps hk2 (by unfold SD; omega)
  have hb2 := HK.out.keeps hk2 (by unfold SD; omega)
  have hf2 := HF.out.keeps hk2 (by unfold SD; omega)
  have hv2 := HV.out.keeps hk2 (by unfold SD; omega)
  have hk3 : Keeps (S55 mb db) w w2 := hk2.weak (fun j _ e => by unfold SD at e; unfold S55; omega)
  have H := hide (And.intro hx2 (And.intro hb2 (And.intro hf2 (And.intro hv2 (And.intro hk3 hR)))))
  have HN := hide hno
  clear hno
  clear hx2 hb2 hf2 hv2 hk2 hk3 hR
  go_wp2
  exact ⟨rfl, ⟨v, older, rfl, HN.out⟩, H.out.2.2.2.2.1, H.out.2.2.2.2.2.1, H.out.2.2.2.2.2.2, H.out.1, H.out.2.1, H.out.2.2.1, H.out.2.2.2.1⟩
set_option maxHeartbeats 2000000 in
theorem f55_o9 (hr : runS f xs l u 0 = (L, U, D, 9, M)) (h : Cl w ib pb sb mb db i a n cap xs f l u) (hp : (i % 2 == 0) = false) (hi : 0 ≤ i) :
    Calls Try.prog 55 (cap55 ib pb sb db) w fun e w' => (∃ older, e = .panicked ({ v := .iface 25 (.int .i64 350), recovered := false } :: older) ∧ NoExit older) ∧ Keeps (S55 mb db) w w' ∧ R55 w' mb db f L U D 0 0 false 0 := by
  obtain ⟨o1, o2, o3, o4⟩ := h.ord
  have hmf : ∀ (fn : Fn) (first cap : Array Value) (w : World), (Instr.makeFunc fn first cap).run Try.prog w = .ok (.func fn first cap) w := fun _ _ _ _ => rfl
  have i0 : w.cell? ⟨ib, 0, none⟩ = some (.int .i64 i) := h.hi.cell 0
  have HC := hide (t59_9 hr h)
  have HX := hide h.hx
  have HK := hide h.hk
  have HF := hide h.hf
  have HV := hide h.hv
  clear h
  unfold capD at HC
  unfold cap55
  go_enter Try.func55, Try.ntmps55
  go_wp2_with fail
  refine HC.out.mono ?_
  rintro e w2 ⟨⟨older, rfl, hno⟩, hk2, hR⟩
  have hx2 := HX.out.keeps hk2 (by unfold SD; omega)
  have hb2 := HK.out.keeps hk2 (by unfold SD; omega)
  have hf2 := HF.out.keeps hk2 (by unfold SD; omega)
  have hv2 := HV.out.keeps hk2 (by unfold SD; omega)
  have hk3 : Keeps (S55 mb db) w w2 := hk2.weak (fun j _ e => by unfold SD at e; unfold S55; omega)
  have H := hide (And.intro hx2 (And.intro hb2 (And.intro hf2 (And.intro hv2 (And.intro hk3 hR)))))
  have HN := hide hno
  clear hno
  clear hx2 hb2 hf2 hv2 hk2 hk3 hR
  go_wp2
  exact ⟨rfl, ⟨older, rfl, HN.out⟩, H.out.2.2.2.2.1, H.out.2.2.2.2.2.1, H.out.2.2.2.2.2.2, H.out.1, H.out.2.1, H.out.2.2.1, H.out.2.2.2.1⟩
theorem o55_e0 (hr : runS f xs l u 0 = (L, U, D, 0, M)) (h : Cl w ib pb sb mb db i a n cap xs f l u) (hp : (i % 2 == 0) = true) (hi : 0 ≤ i) :
    Calls Try.prog 11 #[.func (.func 55) #[] (cap55 ib pb sb db)] w fun e w' => e = .returned .nilIface ∧ Keeps (S55 mb db) w w' ∧ R55 w' mb db f L U D 0 0 false 0 :=
  (outside_ret 55 _ w (S55 mb db) (fun W => R55 W mb db f L U D 0 0 false 0) (fun _ _ => by kernel_rfl) (fun k hk => by rcases hk with rfl | hk; exact Blk.lt h.hm; have := h.hv.lt; omega) (fun W0 hW => f55_e0 hr (h.non hW) hp hi)).mono fun e w' ⟨he, hk, W1, hR, hb⟩ => ⟨he, hk, hR.below hb (Blk.lt h.hm) h.hv.lt⟩
theorem o55_ef {K : Int} (hr : runS f xs l u 0 = (L, U, D, K, M)) (hk : K = 1 ∨ K = 2) (h : Cl w ib pb sb mb db i a n cap xs f l u) (hp : (i % 2 == 0) = true) (hi : 0 ≤ i) :
    Calls Try.prog 11 #[.func (.func 55) #[] (cap55 ib pb sb db)] w fun e w' => e = .returned .nilIface ∧ Keeps (S55 mb db) w w' ∧ R55 w' mb db f L U D K M true 0 :=
  (outside_ret 55 _ w (S55 mb db) (fun W => R55 W mb db f L U D K M true 0) (fun _ _ => by kernel_rfl) (fun k hk => by rcases hk with rfl | hk; exact Blk.lt h.hm; have := h.hv.lt; omega) (fun W0 hW => f55_ef hr hk (h.non hW) hp hi)).mono fun e w' ⟨he, hk, W1, hR, hb⟩ => ⟨he, hk, hR.below hb (Blk.lt h.hm) h.hv.lt⟩
theorem o55_e8 (hr : runS f xs l u 0 = (L, U, D, 8, M)) (h : Cl w ib pb sb mb db i a n cap xs f l u) (hp : (i % 2 == 0) = true) (hi : 0 ≤ i) :
    Calls Try.prog 11 #[.func (.func 55) #[] (cap55 ib pb sb db)] w fun e w' => (∃ v, e = .returned (.iface 8 v)) ∧ Keeps (S55 mb db) w w' ∧ R55 w' mb db f L U D 0 0 false 0 :=
  (outside_panic 55 _ w (S55 mb db) 8 (fun _ W => R55 W mb db f L U D 0 0 false 0) (fun _ _ => by kernel_rfl) (fun k hk => by rcases hk with rfl | hk; exact Blk.lt h.hm; have := h.hv.lt; omega) (fun W0 hW => (f55_e8 hr (h.non hW) hp hi).mono fun e w' ⟨⟨v, older, he, hno⟩, hk, hR⟩ => ⟨⟨v, older, he, hno, hR⟩, hk⟩)).mono fun e w' ⟨v, he, hk, W1, hR, hb⟩ => ⟨⟨v, he⟩, hk, hR.below hb (Blk.lt h.hm) h.hv.lt⟩
theorem o55_e9 (hr : runS f xs l u 0 = (L, U, D, 9, M)) (h : Cl w ib pb sb mb db i a n cap xs f l u) (hp : (i % 2 == 0) = true) (hi : 0 ≤ i) :
    Calls Try.prog 11 #[.func (.func 55) #[] (cap55 ib pb sb db)] w fun e w' => e = .returned (.iface 25 (.int .i64 350)) ∧ Keeps (S55 mb db) w w' ∧ R55 w' mb db f L U D 0 0 false 0 :=
  (outside_panic 55 _ w (S55 mb db) 25 (fun v W => v = .int .i64 350 ∧ R55 W mb db f L U D 0 0 false 0) (fun _ _ => by kernel_rfl) (fun k hk => by rcases hk with rfl | hk; exact Blk.lt h.hm; have := h.hv.lt; omega) (fun W0 hW => (f55_e9 hr (h.non hW) hp hi).mono fun e w' ⟨⟨older, he, hno⟩, hk, hR⟩ => ⟨⟨_, older, he, hno, rfl, hR⟩, hk⟩)).mono fun e w' ⟨v, he, hk, W1, ⟨hv, hR⟩, hb⟩ => ⟨by rw [he, hv], hk, hR.below hb (Blk.lt h.hm) h.hv.lt⟩
theorem o55_o0 (hr : runS f xs l u 0 = (L, U, D, 0, M)) (h : Cl w ib pb sb mb db i a n cap xs f l u) (hp : (i % 2 == 0) = false) (hi : 0 ≤ i) :
    Calls Try.prog 11 #[.func (.func 55) #[] (cap55 ib pb sb db)] w fun e w' => e = .returned .nilIface ∧ Keeps (S55 mb db) w w' ∧ R55 w' mb db f L U D 0 0 false 5 :=
  (outside_ret 55 _ w (S55 mb db) (fun W => R55 W mb db f L U D 0 0 false 5) (fun _ _ => by kernel_rfl) (fun k hk => by rcases hk with rfl | hk; exact Blk.lt h.hm; have := h.hv.lt; omega) (fun W0 hW => f55_o0 hr (h.non hW) hp hi)).mono fun e w' ⟨he, hk, W1, hR, hb⟩ => ⟨he, hk, hR.below hb (Blk.lt h.hm) h.hv.lt⟩
theorem o55_of {K : Int} (hr : runS f xs l u 0 = (L, U, D, K, M)) (hk : K = 1 ∨ K = 2) (h : Cl w ib pb sb mb db i a n cap xs f l u) (hp : (i % 2 == 0) = false) (hi : 0 ≤ i) :
    Calls Try.prog 11 #[.func (.func 55) #[] (cap55 ib pb sb db)] w fun e w' => e = .returned .nilIface ∧ Keeps (S55 mb db) w w' ∧ R55 w' mb db f L U D K M true 0 :=
  (outside_ret 55 _ w (S55 mb db) (fun W => R55 W mb db f L U D K M true 0) (fun _ _ => by kernel_rfl) (fun k hk => by rcases hk with rfl | hk; exact Blk.lt h.hm; have := h.hv.lt; omega) (fun W0 hW => f55_of hr hk (h.non hW) hp hi)).mono fun e w' ⟨he, hk, W1, hR, hb⟩ => ⟨he, hk, hR.below hb (Blk.lt h.hm) h.hv.lt⟩
theorem o55_o8 (hr : runS f xs l u 0 = (L, U, D, 8, M)) (h : Cl w ib pb sb mb db i a n cap xs f l u) (hp : (i % 2 == 0) = false) (hi : 0 ≤ i) :
    Calls Try.prog 11 #[.func (.func 55) #[] (cap55 ib pb sb db)] w fun e w' => (∃ v, e = .returned (.iface 8 v)) ∧ Keeps (S55 mb db) w w' ∧ R55 w' mb db f L U D 0 0 false 0 :=
  (outside_panic 55 _ w (S55 mb db) 8 (fun _ W => R55 W mb db f L U D 0 0 false 0) (fun _ _ => by kernel_rfl) (fun k hk => by rcases hk with rfl | hk; exact Blk.lt h.hm; have := h.hv.lt; omega) (fun W0 hW => (f55_o8 hr (h.non hW) hp hi).mono fun e w' ⟨⟨v, older, he, hno⟩, hk, hR⟩ => ⟨⟨v, older, he, hno, hR⟩, hk⟩)).mono fun e w' ⟨v, he, hk, W1, hR, hb⟩ => ⟨⟨v, he⟩, hk, hR.below hb (Blk.lt h.hm) h.hv.lt⟩
theorem o55_o9 (hr : runS f xs l u 0 = (L, U, D, 9, M)) (h : Cl w ib pb sb mb db i a n cap xs f l u) (hp : (i % 2 == 0) = false) (hi : 0 ≤ i) :
    Calls Try.prog 11 #[.func (.func 55) #[] (cap55 ib pb sb db)] w fun e w' => e = .returned (.iface 25 (.int .i64 350)) ∧ Keeps (S55 mb db) w w' ∧ R55 w' mb db f L U D 0 0 false 0 :=
  (outside_panic 55 _ w (S55 mb db) 25 (fun v W => v = .int .i64 350 ∧ R55 W mb db f L U D 0 0 false 0) (fun _ _ => by kernel_rfl) (fun k hk => by rcases hk with rfl | hk; exact Blk.lt h.hm; have := h.hv.lt; omega) (fun W0 hW => (f55_o9 hr (h.non hW) hp hi).mono fun e w' ⟨⟨older, he, hno⟩, hk, hR⟩ => ⟨⟨_, older, he, hno, rfl, hR⟩, hk⟩)).mono fun e w' ⟨v, he, hk, W1, ⟨hv, hR⟩, hb⟩ => ⟨by rw [he, hv], hk, hR.below hb (Blk.lt h.hm) h.hv.lt⟩
end
end Go.Proofs.Ytfjofiofgjlgiaa
