/-
  Walks over layer 34: slices.Clone; First, Only, Go, Rounds. No condition.
-/
import Derived.Test.YtbgcglgbaekfeaaB
import Derived.Lib.SliceRun
namespace Go.Proofs.Ytbgcglgbaekfeaa
open Go.RowKit
attribute [local go_sem] onto_cell onto_frozen
theorem Tm.info3 : (Try.prog.info? 3).map (fun i => (i.zero, i.size, i.bytes)) = some (some (.int .i64 0), 1, 8) := by kernel_rfl
set_option maxHeartbeats 1000000 in
theorem clone_any (a : Option Addr) (n cap : Nat) (xs : List Int) (w : World) (h : Ints w a n xs) :
    Calls Try.prog 25 #[.slice a n cap] w fun e w' => ∃ v, e = .returned v ∧ w'.ownsRow w.heap.size 3 1 v n (xs.map (Value.int .i64)) ∧ Keeps Non w w' := by
  obtain ⟨i0, hi, hz0, hz1, hz2⟩ := info_parts Tm.info3
  have q22 : ∀ (w : World) (a : Option Addr) (n c n' c' : Nat), (binOp .eql 22 (.slice a n c) (.slice none n' c')).run Try.prog w = .ok (.bool a.isNone) w := fun w a n c n' c' => Lib.run_eql_slice_nil w _ _ a n c n' c' Try.underlying22
  have hbig := h.big
  by_cases hn : n = 0
  · have hx : xs = [] := List.eq_nil_of_length_eq_zero (by rw [h.len]; exact hn)
    subst hn hx
    clear h
    cases a with
    | none =>
      go_enter Try.func25, Try.ntmps25
      go_wp2
      go_ret
      exact ⟨_, rfl, World.ownsRow_nil _ _ _ _, Keeps.refl _ _⟩
    | some ad =>
      go_enter Try.func25, Try.ntmps25
      go_wp2_with (at_builtin; refine wpList_append_own _ rfl _ _ 22 rfl w.heap.size 3 i0 (.int .i64 0) 1 8 Try.underlying22 hi hz0 hz1 hz2 rfl (by decide) _ _ _ rfl (World.ownsRow_made w #[] 0 (Nat.le_refl _) (Nat.zero_le _) rfl) ad 0 cap [] rfl rfl (by intro j u hj; simp at hj) (by intro u hu; cases hu) (by unfold maxLen; omega) (by omega) (by simp) ?_)
      intro v' w1 hown hgrow hnil
      go_wp2
      go_ret
      refine ⟨v', rfl, by simpa using hown, keeps_grown ((Keeps.refl _ w).alloc _) hgrow (by intro k hk; simp [Value.ownBlock] at hk; right; omega)⟩
  · obtain ⟨b, off, rfl, hb, hc⟩ := h.at (by omega)
    have A : Hid (∀ i, i < n → w.cell? ⟨b, off + i, none⟩ = some (.int .i64 (xs.getD i 0))) := hc
    have hlen := hide h.len
    clear hc h
    go_enter Try.func25, Try.ntmps25
    go_wp2_with (at_builtin; refine wpList_append_own _ rfl _ _ 22 rfl w.heap.size 3 i0 (.int .i64 0) 1 8 Try.underlying22 hi hz0 hz1 hz2 rfl (by decide) _ _ _ rfl (World.ownsRow_made w #[] 0 (Nat.le_refl _) (Nat.zero_le _) rfl) ⟨b, off, none⟩ n cap (xs.map (Value.int .i64)) rfl ?qc1 ?qc2 ?qc3 ?qc4 ?qc5 ?qc6 ?_)
    case qc1 => simp [hlen.out]
    case qc2 =>
      intro j u hj
      have hjn : j < xs.length := by
        have := (List.getElem?_eq_some_iff.1 hj).1
        simpa using this
      rw [Addr.add_lit]
      refine Lib.cell?_alloc_some _ ?_
      rw [A.out j (by rw [← hlen.out]; exact hjn)]
      have e : (xs.map (Value.int .i64))[j]? = some (Value.int .i64 (xs.getD j 0)) := by simp [List.getD, List.getElem?_eq_getElem hjn]
      rw [e] at hj
      exact hj
    case qc3 => intro u hu; obtain ⟨x, _, rfl⟩ := List.mem_map.1 hu; rfl
    case qc4 => unfold maxLen; omega
    case qc5 => omega
    case qc6 => simp
    intro v' w1 hown hgrow hnil
    go_wp2
    go_ret
    refine ⟨v', rfl, by simpa using hown, keeps_grown ((Keeps.refl _ w).alloc _) hgrow (by intro k hk; simp [Value.ownBlock] at hk; right; omega)⟩
end Go.Proofs.Ytbgcglgbaekfeaa
