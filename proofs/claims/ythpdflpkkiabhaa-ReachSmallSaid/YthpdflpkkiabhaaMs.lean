/-
  The marks that loops over iterators leave behind, where such loops stand in a loop. No condition.
-/
import Derived.Test.YthpdflpkkiabhaaWy
import Derived.Test.YthpdflpkkiabhaaBk
namespace Go.Proofs.Ythpdflpkkiabhaa
open Go.RowKit
set_option linter.unusedVariables false
theorem Blk.non {w w' : World} {b : Nat} {xs : List Value} {t : TypeId} (h : Blk w b xs t) (k : Keeps Non w w') : Blk w' b xs t := h.keeps k (fun x => x)
/-- Marks of blocks from b on, each one still open. -/
def Marks (b : Nat) (ds : List Deferred) (w : World) : Prop :=
  ∃ Ds : List Nat, ds = Ds.map (fun D => ({ target := .collected D, args := #[] } : Deferred)) ∧ Ds.Nodup ∧ ∀ D ∈ Ds, b ≤ D ∧ w.heap[D]? = some (.deferred (some []))
theorem Marks.nil (b : Nat) (w : World) : Marks b [] w := ⟨[], rfl, List.nodup_nil, by simp⟩
theorem Marks.lt {b : Nat} {ds : List Deferred} {w : World} (h : Marks b ds w) : True := trivial
theorem Marks.keeps {b : Nat} {ds : List Deferred} {w w' : World} {S : Nat → Prop} (h : Marks b ds w) (k : Keeps S w w') (hS : ∀ i, S i → ∀ o, w.heap[i]? ≠ some (.deferred o)) : Marks b ds w' := by
  obtain ⟨Ds, h1, h2, h3⟩ := h
  exact ⟨Ds, h1, h2, fun D hD => ⟨(h3 D hD).1, (k.block D (Array.getElem?_eq_some_iff.1 (h3 D hD).2).1 (fun hSD => hS D hSD _ (h3 D hD).2)).trans (h3 D hD).2⟩⟩
theorem Marks.non {b : Nat} {ds : List Deferred} {w w' : World} (h : Marks b ds w) (k : Keeps Non w w') : Marks b ds w' := h.keeps k (fun _ h => h.elim)
theorem Marks.cons {b : Nat} {ds : List Deferred} {w w' : World} {D : Nat} (h : Marks b ds w) (h' : Marks b ds w') (hb : b ≤ w.heap.size) (hD : w.heap.size ≤ D) (hd : w'.heap[D]? = some (.deferred (some []))) : Marks b ({ target := .collected D, args := #[] } :: ds) w' := by
  obtain ⟨Ds, h1, h2, h3⟩ := h
  obtain ⟨Ds', h1', h2', h3'⟩ := h'
  refine ⟨D :: Ds, by rw [h1]; rfl, List.nodup_cons.2 ⟨fun hm => ?_, h2⟩, fun D' hD' => ?_⟩
  · have := (Array.getElem?_eq_some_iff.1 (h3 D hm).2).1
    omega
  · rcases List.mem_cons.1 hD' with rfl | hm
    · exact ⟨by omega, hd⟩
    · have e : Ds' = Ds := by
        rw [h1] at h1'
        have hinj : Function.Injective (fun D => ({ target := .collected D, args := #[] } : Deferred)) := fun x y hxy => by
          simp only [Deferred.mk.injEq, Target.collected.injEq, and_true] at hxy
          exact hxy
        exact (List.map_inj_right (fun x y hxy => hinj hxy)).1 h1'.symm
      exact ⟨(h3 D' hm).1, (h3' D' (by rw [e]; exact hm)).2⟩
theorem blk_no_mark {w : World} {b : Nat} {xs : List Value} {t : TypeId} (h : Blk w b xs t) (o : Option (List Deferred)) : w.heap[b]? ≠ some (.deferred o) := fun e => by
  unfold Blk at h
  rw [h] at e
  cases e
/-- On the way out all marks are taken. -/
theorem leaves_marks {F : Fence} {n : Nat} {fn : Func} {tmps : Array Value} {R : Ending → World → Prop} : ∀ (ds : List Deferred) (b : Nat) (w : World), Marks b ds w → (∀ w', Keeps (fun k => b ≤ k) w w' → (∀ k : Nat, (∀ o : Option (List Deferred), w.heap[k]? ≠ some (Obj.deferred o)) → w'.heap[k]? = w.heap[k]?) → LeavesInM F n Try.prog fn tmps R [] .returning w') → LeavesInM F n Try.prog fn tmps R ds .returning w
  | [], b, w, _, h => h w (Keeps.refl _ _) (fun _ _ => rfl)
  | d :: ds, b, w, hm, h => by
    obtain ⟨Ds, h1, h2, h3⟩ := hm
    cases Ds with
    | nil => cases h1
    | cons D Ds =>
      rw [List.map_cons] at h1
      cases h1
      rw [List.nodup_cons] at h2
      have hD := h3 D (List.mem_cons_self ..)
      refine ⟨by simp, .inl ⟨D, _, rfl, run_takeDeferred hD.2, ?_⟩⟩
      refine leaves_marks _ b _ ⟨Ds, rfl, h2.2, fun D' hD' => ⟨(h3 D' (List.mem_cons_of_mem _ hD')).1, ?_⟩⟩ (fun w' hk hs => h w' ?_ ?_)
      · rw [World.putObj_heap_other (fun e => h2.1 (by rw [← e]; exact hD'))]
        exact (h3 D' (List.mem_cons_of_mem _ hD')).2
      · exact (Keeps.putObj (Keeps.refl (fun k => b ≤ k) w) (.inl hD.1) _).then hk
      · intro k hk2
        have hkD : k ≠ D := fun e => hk2 (some []) (by rw [e]; exact hD.2)
        rw [hs k (fun o => by rw [World.putObj_heap_other hkD]; exact hk2 o), World.putObj_heap_other hkD]
end Go.Proofs.Ythpdflpkkiabhaa
