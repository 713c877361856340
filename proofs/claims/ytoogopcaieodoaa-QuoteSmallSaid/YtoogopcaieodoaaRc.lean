/-
  The reference's Bytes. No condition.
-/
import Derived.Test.YtoogopcaieodoaaRb
import Derived.Deep.AppendLies
import Derived.Deep.RegionLaw
namespace Go.Proofs.Ytoogopcaieodoaa
open Go.RowKit Go.Shelf
attribute [local go_sem] onto_cell onto_frozen
attribute [-go_sem] loadCellsFrom
/-- A string's bytes appended to a row of the call's own, at a step of a region that draws. -/
theorem step_append_str {P : Program} {w : World} {ops : Array Oper} {o : Oper} {a : Act} {K : Act → World → Prop} {Q : Exit → Act → World → Prop} {E : Prop} (hgd : o.guard = none) (sl x : Operand) (t u : TypeId)
    (ho : o.op = .call { callee := .builtin .append, args := #[sl, x], argTypes := #[t, u] })
    (base : Nat) (e : TypeId) (i : TypeInfo) (ht : P.underlying t = some (.slice e)) (hu : P.underlying u = some .string) (hi : P.info? e = some i) (hz : i.zero = some (.int .u8 0))
    (hsize : i.size = 1) (hby : i.bytes = 1)
    (v : Value) (n : Nat) (xs : List Value) (hs : a.eval sl = v) (hown : w.ownsRow base e 1 v n xs) (s : ByteArray) (hx : a.eval x = .string s)
    (h63 : n + s.size ≤ maxLen) (hbytes : n + s.size ≤ 140737488355328) (hbase : base ≤ w.heap.size)
    (h : ∀ v' w', w'.ownsRow base e 1 v' (n + s.size) (xs ++ Lib.strCells s) → w.grownBy w' v.ownBlock → K (a.put o.dst v') w') :
    if Region.wanted o (yielded ops a.tmps) = true then Oper.wp P o a w K Q else E := by
  have hw : Region.wanted o (yielded ops a.tmps) = true := by simp [Region.wanted, hgd]
  rw [if_pos hw]
  obtain ⟨v', w', hr, h2, h3, h4⟩ := Lib.run_append_own_string (P := P) w base t u o.type e i ht hu hi hz hsize hby v n xs hown s h63 hbytes hbase
  unfold Oper.wp execOp
  simp only [ho, resolve, invoke, builtin, Sem.run_bind, Sem.run_pure, Result.andThen_ok, List.map_toArray, List.map_cons, List.map_nil, hs, hx, hr]
  exact h v' w' h2 h3
set_option maxRecDepth 100000 in
set_option maxHeartbeats 4000000 in
theorem bytesR_l (m : Mk) (s t : ByteArray) (w : World) (hs : s.size ≤ 1000000) (ht : t.data.toList = formsL m s.data.toList) :
    Calls Try.prog 31 #[.string s, .agg (mkA m)] w fun e w' => e = .returned (.string t) ∧ Keeps Non w w' := by
  obtain ⟨i0, hi, hz0, hz1, hz2⟩ := info_parts Try.Builder_Extra_169.infoByte
  obtain ⟨n, hn⟩ : ∃ n, s.size = n := ⟨_, rfl⟩
  have HN := hide hn
  have HT := hide ht
  have hb := blkA_new w m rfl
  have HB := hide hb
  clear hn ht hb
  go_enter Try.func31, Try.ntmps31
  go_wp2_with fail
  go_loopw [5, 6] (fun v i wr => ∃ (k q : Nat), k ≤ n ∧ i = .int .i64 k ∧ q ≤ 4 * k ∧ Hid (Keeps Non w wr) ∧ Hid (Blk wr w.heap.size (mkL m) 60) ∧ Hid (wr.ownsRow (w.heap.size + 1) 5 1 v q (Lib.byteCells (formsL m (s.data.toList.take k))))) (fun _ i _ => n - (intOf i).toNat)
  case atStart => exact ⟨0, 0, by omega, rfl, by omega, (Keeps.refl _ _).alloc _, HB.out, World.ownsRow_nil _ _ _ _⟩
  case round =>
    clear HB
    obtain ⟨k, q, hk, rfl, hq, HK, HB, HO⟩ := hrel
    by_cases hlt : k < n
    · have hk' : k < s.size := by rw [HN.out]; exact hlt
      obtain ⟨c, hc⟩ : ∃ c : Int, (s[k].toNat : Int) = c := ⟨_, rfl⟩
      obtain ⟨o, ho⟩ := str_of (formB m s[k])
      have R1 := hide (fun w => byteR_l m s[k] c o w hc ho)
      have lo : o.size ≤ 4 := by
        have := formB_le m s[k]
        rw [← ho] at this
        exact this
      have HNx : Hid (Lib.byteCells (formsL m (s.data.toList.take (k + 1))) = Lib.byteCells (formsL m (s.data.toList.take k)) ++ Lib.strCells o) := by
        show _ = _
        rw [formsL_next m s k hk', formB_eq, ← ho]
        simp [Lib.byteCells, Lib.strCells]
      have HL1 := lc60 HB.out.drew
      have HL2 := fun u => lc60 (HB.out.keeps (onto_keeps wr u) (fun x => x))
      have y0 : (0 : Int) ≤ (k : Int) := by omega
      have y1 : (k : Int) < (s.size : Int) := by omega
      clear ho
      go_wp2_with fail
      go_region_law (first | (go_simp; go_at_call 30; refine (R1.out _).mono ?_; rintro e w4 ⟨rfl, hk4⟩; obtain ⟨u4, rfl⟩ : ∃ u, w4 = onto wr u := ⟨w4, (onto_of ((Keeps.refl Non wr).drew.then hk4)).symm⟩) | (refine step_append_str rfl _ _ 33 9 rfl (w.heap.size + 1) 5 i0 Try.underlying33 Try.underlying9 hi hz0 hz1 hz2 _ _ _ (by rfl) (owns_keeps HO.out (onto_keeps wr u4) (fun _ _ x => x)) o (by rfl) (by unfold maxLen; omega) (by omega) (by have := (onto_keeps wr u4).size; have := HB.out.lt; omega) ?_; intro v' w5 hown' hgrow))
      all_goals
        go_wp2_with fail
        go_roundw
        case rel =>
          refine ⟨k + 1, q + o.size, by omega, by go_num, by omega, keeps_grown (HK.out.then (onto_keeps wr u4)) hgrow (fun g hg => .inr (by have := own_ge HO.out g hg; omega)), ?_, by rw [HNx.out]; exact hown'⟩
          have hlt2 := (HB.out.keeps (onto_keeps wr u4) (fun x => x)).lt
          refine (HB.out.keeps (onto_keeps wr u4) (fun x => x)).of_eq (hgrow.block _ hlt2 (fun e => ?_))
          have := own_ge HO.out _ e.symm
          omega
        case measure => simp [intOf]; omega
    · have hkn : k = n := by omega
      subst hkn
      have kc : (convert 33 9 u5).run Try.prog wr = _ := own_string (w := wr) HO.out
      have y9 : ¬ (k : Int) < (s.size : Int) := by have := HN.out; omega
      go_wp2_with fail
      go_ret
      refine ⟨ret_strl ?_, HK.out⟩
      rw [HT.out, ← HN.out, List.take_of_length_le (by exact Nat.le_refl _)]
end Go.Proofs.Ytoogopcaieodoaa
