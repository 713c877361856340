/-
  Layer 6: append of one more row to a row of lists, and what Coarsest says of it. No condition.
-/
import Derived.Test.YtkcbahfmdokalaaPw
import Derived.Test.YtkcbahfmdokalaaLq
import Derived.Test.YtkcbahfmdokalaaS
import Derived.Test.YtkcbahfmdokalaaR
import Derived.Maps.AppendAt
namespace Go.Proofs.Ytkcbahfmdokalaa
open Go.RowKit
set_option linter.unusedVariables false
theorem next_more {w W2 W3 : World} {g B D i k cap : Nat} {V : Int} {p : List Int} (hB : Blk W2 B ((List.replicate i (Value.slice none 0 0)).set k (.slice (some ⟨D, 0, none⟩) 2 2)) 22) (hD : Blk W2 D [.int .i64 0, .int .i64 V] 3)
    (hI : Ints W2 (some ⟨g, 0, none⟩) i p) (hK : Keeps Non w W2) (hk : Keeps Non W2 W3) (hki : k < i) (hi : i ≤ 1000) (hBw : w.heap.size ≤ B) (hBD : B ≠ D) (hDw : w.heap.size ≤ D) (hg : Good p) (hr : rightB p = true) (hl : p.length = i) :
    ∃ v' W4, (Builtin.append_ #[36, 36] 36 #[.slice (some ⟨B, 0, none⟩) i i, .slice (some ⟨W3.heap.size, 0, none⟩) 1 1]).run Try.prog (W3.alloc (.cells #[.slice none 0 0] 22)) = .ok v' W4 ∧ Keeps Non w W4 ∧ Calls Try.prog 27 #[.slice (some ⟨g, 0, none⟩) i cap, v'] W4 fun e w' => e = .returned (.tuple #[.slice none 0 0, .int .i64 0, .int .i64 61]) ∧ Keeps Non W4 w' := by
  obtain ⟨i0, hi0, hz0, hz1, hz2⟩ := info22_parts
  have hkA := hk.alloc (.cells #[.slice none 0 0] 22)
  have hB2 := hB.non hkA
  have hD2 := hD.non hkA
  have hI2 := hI.non hkA
  have hKA := hK.then hkA
  have hgB : g ≠ B := by
    intro e
    subst e
    obtain ⟨b, o, hbe, hbl, hc⟩ := hI.at (by omega)
    cases hbe
    have h1 := hc 0 (by omega)
    rw [hB.cell] at h1
    simp only [Nat.zero_add, List.getElem?_set, List.getElem?_replicate] at h1
    split at h1
    · simp at h1
    · simp at h1
  generalize hW : W3.alloc (.cells #[.slice none 0 0] 22) = W at *
  have hN : ∀ j u, [Value.slice none 0 0][j]? = some u → W.cell? ((⟨W3.heap.size, 0, none⟩ : Addr).add j) = some u := by rw [← hW]; exact cell_one_new W3 _ _
  have hsz : W3.heap.size ≤ W.heap.size := by rw [← hW]; simp
  have hown : W.ownsRow B 22 1 (.slice (some ⟨B, 0, none⟩) i i) i ((List.replicate i (Value.slice none 0 0)).set k (.slice (some ⟨D, 0, none⟩) 2 2)) :=
    ⟨by simp, .inr ⟨B, i, _, rfl, Nat.le_refl _, hB2, Nat.le_refl _, by unfold maxLen; omega, by simp, by
      rw [List.take_of_length_le (by simp)]⟩⟩
  obtain ⟨v', W4, h1, h2, h3, h4, h5⟩ := run_append_own_at (P := Try.prog) (w := W) B 36 36 22 i0 (.slice none 0 0) 1 24 Try.underlying36 hi0 hz0 hz1 hz2 rfl (by decide) (.slice (some ⟨B, 0, none⟩) i i) i _ hown ⟨W3.heap.size, 0, none⟩ 1 1 [.slice none 0 0] rfl hN (by intro u hu; simp at hu; subst hu; rfl) (by unfold maxLen; omega) (by omega) (Nat.le_of_lt hB2.lt)
  have hgr : Keeps (fun b => b = B) W W4 := keeps_grown (Keeps.refl _ W) h3 (fun g hg => .inl (by cases hg; rfl))
  have hD4 := hD2.keeps hgr (by intro e; exact hBD e.symm)
  have hI4 : Ints W4 (some ⟨g, 0, none⟩) i p := hI2.keeps hgr (fun b o hbe => by cases hbe; exact hgB)
  have hK4 : Keeps Non w W4 := keeps_grown hKA h3 (fun g hg => .inr (by cases hg; exact hBw))
  have hkids : Kids W4 ((List.replicate i (Value.slice none 0 0)).set k (.slice (some ⟨D, 0, none⟩) 2 2) ++ [.slice none 0 0]) ((List.replicate i ([] : List Int)).set k [0, V] ++ [[]]) none := by
    intro j hj
    have hj2 : j < i + 1 := by simpa using hj
    by_cases hjk : k = j
    · subst hjk
      have e : ((List.replicate i ([] : List Int)).set k [0, V] ++ [[]]).getD k [] = [0, V] := by
        rw [List.getD_eq_getElem?_getD, List.getElem?_append_left (by simpa using hki), List.getElem?_set_self (by simpa using hki)]
        rfl
      rw [e, List.getElem?_append_left (by simpa using hki), List.getElem?_set_self (by simpa using hki)]
      exact ⟨_, _, rfl, ints_of_blk (xs := [0, V]) hD4 (by simp), fun b o hbo => by cases hbo; exact ⟨hD4.lt, by simp⟩⟩
    · have e : ((List.replicate i ([] : List Int)).set k [0, V] ++ [[]]).getD j [] = [] := by
        rw [List.getD_eq_getElem?_getD, List.getElem?_append]
        split
        · rw [List.getElem?_set_ne hjk, List.getElem?_replicate]
          split <;> rfl
        · cases h : [([] : List Int)][j - ((List.replicate i ([] : List Int)).set k [0, V]).length]? with
          | none => rfl
          | some y =>
            have := List.mem_of_getElem? h
            simp at this
            subst this
            rfl
      have e2 : ((List.replicate i (Value.slice none 0 0)).set k (.slice (some ⟨D, 0, none⟩) 2 2) ++ [.slice none 0 0])[j]? = some (.slice none 0 0) := by
        rw [List.getElem?_append]
        split
        · rename_i hlt
          rw [List.getElem?_set_ne hjk, List.getElem?_replicate, if_pos (by simpa using hlt)]
        · rename_i hge
          have : j - ((List.replicate i (Value.slice none 0 0)).set k (.slice (some ⟨D, 0, none⟩) 2 2)).length = 0 := by simp at hge ⊢; omega
          rw [this]
          rfl
      rw [e, e2]
      exact ⟨none, 0, rfl, Ints.nil W4 none, fun b o hbo => by cases hbo⟩
  obtain ⟨a4, c4, rfl, hR⟩ := kids_rows hkids h2 (by simp) (by omega)
  exact ⟨_, W4, h1, hK4, coarsest_no (some ⟨g, 0, none⟩) a4 i cap (i + 1) c4 p _ W4 hI4 hR hg 61 (wrongE_61 hr (fun h => by have := h.1; simp [hl] at this)) (by decide)⟩
end Go.Proofs.Ytkcbahfmdokalaa
