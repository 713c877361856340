/-
  Walks over layer 6's statements: Follows. No condition.
-/
import Derived.Test.YtkcbahfmdokalaaMk
import Derived.Test.YtkcbahfmdokalaaO
import Derived.Deep.RegionLaw
import Derived.Outline
namespace Go.Proofs.Ytkcbahfmdokalaa
open Go.RowKit
attribute [local go_sem] onto_cell onto_frozen
set_option linter.unusedVariables false
/-- One appended to a row of the call's own, at a step of a region that draws. -/
theorem step_append_at {P : Program} {w : World} {ops : Array Oper} {o : Oper} {a : Act} {K : Act → World → Prop} {Q : Exit → Act → World → Prop} {E : Prop} (hgd : o.guard = none) (s x : Operand) (t : TypeId)
    (ho : o.op = .call { callee := .builtin .append, args := #[s, x], argTypes := #[t, t] })
    (base : Nat) (e : TypeId) (i : TypeInfo) (z : Value) (size bytes : Nat) (ht : P.underlying t = some (.slice e)) (hi : P.info? e = some i) (hz : i.zero = some z)
    (hsize : i.size = size) (hby : i.bytes = bytes) (hzs : z.cells.size = size) (hsz : 0 < size)
    (v : Value) (n : Nat) (xs : List Value) (hs : a.eval s = v) (hown : w.ownsRow base e size v n xs)
    (ad : Addr) (m c : Nat) (news : List Value) (hx : a.eval x = .slice (some ad) m c) (hl : news.length = m * size) (hnews : ∀ j u, news[j]? = some u → w.cell? (ad.add j) = some u) (h1 : ∀ u ∈ news, u.oneCell' = true)
    (h63 : n + m ≤ maxLen) (hbytes : (n + m) * bytes ≤ 140737488355328) (hbase : base ≤ w.heap.size)
    (h : ∀ v' w', w'.ownsRow base e size v' (n + m) (xs ++ news) → w.grownBy w' v.ownBlock → (v'.ownBlock = v.ownBlock ∨ v'.ownBlock = some w.heap.size) → K (a.put o.dst v') w') :
    if Region.wanted o (yielded ops a.tmps) = true then Oper.wp P o a w K Q else E := by
  have hw : Region.wanted o (yielded ops a.tmps) = true := by simp [Region.wanted, hgd]
  rw [if_pos hw]
  obtain ⟨v', w', hr, h2, h3, h4, h5⟩ := run_append_own_at (P := P) w base t o.type e i z size bytes ht hi hz hsize hby hzs hsz v n xs hown ad m c news hl hnews h1 h63 hbytes hbase
  unfold Oper.wp execOp
  simp only [ho, resolve, invoke, builtin, Sem.run_bind, Sem.run_pure, Result.andThen_ok, List.map_toArray, List.map_cons, List.map_nil, hs, hx, hr]
  exact h v' w' h2 h3 h5
/-- What comes next of one element, by the first k numbers. -/
def folRow (n : Nat) (zs : List Int) (i k : Nat) : List Int := (List.range k).filterMap fun j => if 3 * i + j < zs.length ∧ zs.getD (3 * i + j) 0 < 200 then some (zs.getD (3 * i + j) 0 % n) else none
def folAt (n : Nat) (zs : List Int) (i k : Nat) : List (List Int) := (List.range n).map fun b => if b < i then folRow n zs b 3 else if b = i then folRow n zs b k else []
def followsL (n : Nat) (zs : List Int) : List (List Int) := (List.range n).map fun b => folRow n zs b 3
theorem folAt_length (n : Nat) (zs : List Int) (i k : Nat) : (folAt n zs i k).length = n := by simp [folAt]
theorem folAt_at {n : Nat} {zs : List Int} {i k b : Nat} (h : b < n) : (folAt n zs i k).getD b [] = if b < i then folRow n zs b 3 else if b = i then folRow n zs b k else [] := by
  rw [getD_numL (by rw [folAt_length]; exact h)]
  simp [folAt]
theorem folAt_start (n : Nat) (zs : List Int) : folAt n zs 0 0 = List.replicate n [] := by
  apply List.ext_getElem?
  intro b
  rw [List.getElem?_replicate]
  by_cases hb : b < n
  · rw [if_pos hb, List.getElem?_eq_getElem (by rw [folAt_length]; exact hb), ← getD_numL (d := []) (by rw [folAt_length]; exact hb), folAt_at hb, if_neg (by omega)]
    split <;> rfl
  · rw [if_neg hb, List.getElem?_eq_none (by rw [folAt_length]; omega)]
theorem folAt_next (n : Nat) (zs : List Int) (i : Nat) : folAt n zs i 3 = folAt n zs (i + 1) 0 := by
  unfold folAt
  refine List.map_congr_left fun b _ => ?_
  by_cases h1 : b < i
  · rw [if_pos h1, if_pos (show b < i + 1 by omega)]
  · by_cases h2 : b = i
    · subst h2
      rw [if_neg h1, if_pos rfl, if_pos (by omega)]
    · rw [if_neg h1, if_neg h2, if_neg (show ¬ b < i + 1 by omega)]
      split <;> rfl
theorem folAt_end (n : Nat) (zs : List Int) (k : Nat) : folAt n zs n k = followsL n zs := by
  unfold folAt followsL
  refine List.map_congr_left fun b hb => ?_
  rw [if_pos (List.mem_range.1 hb)]
theorem folRow_yes {n : Nat} {zs : List Int} {i k : Nat} (h : 3 * i + k < zs.length ∧ zs.getD (3 * i + k) 0 < 200) : folRow n zs i (k + 1) = folRow n zs i k ++ [zs.getD (3 * i + k) 0 % n] := by
  unfold folRow
  rw [List.range_succ, List.filterMap_append, List.filterMap_cons, if_pos h]
  rfl
theorem folRow_no {n : Nat} {zs : List Int} {i k : Nat} (h : ¬ (3 * i + k < zs.length ∧ zs.getD (3 * i + k) 0 < 200)) : folRow n zs i (k + 1) = folRow n zs i k := by
  unfold folRow
  rw [List.range_succ, List.filterMap_append, List.filterMap_cons, if_neg h]
  simp
theorem ext_getDL {α : Type} {xs ys : List α} (d : α) (hl : xs.length = ys.length) (h : ∀ j, j < xs.length → xs.getD j d = ys.getD j d) : xs = ys := by
  apply List.ext_getElem hl
  intro i h1 h2
  have := h i h1
  rwa [getD_numL h1, getD_numL h2] at this
theorem folAt_yes {n : Nat} {zs : List Int} {i k : Nat} (hi : i < n) (h : 3 * i + k < zs.length ∧ zs.getD (3 * i + k) 0 < 200) : folAt n zs i (k + 1) = (folAt n zs i k).set i ((folAt n zs i k).getD i [] ++ [zs.getD (3 * i + k) 0 % n]) := by
  refine ext_getDL [] (by simp [folAt_length]) fun b hb => ?_
  rw [folAt_length] at hb
  rw [getD_set (by rw [folAt_length]; exact hi), folAt_at hb, folAt_at hi, folAt_at hb]
  by_cases h1 : i = b
  · subst h1
    simp only [if_pos, if_neg (Nat.lt_irrefl i)]
    exact folRow_yes h
  · have h2 : ¬ b = i := fun e => h1 e.symm
    simp only [if_neg h1, if_neg h2]
theorem folAt_no {n : Nat} {zs : List Int} {i k : Nat} (h : ¬ (3 * i + k < zs.length ∧ zs.getD (3 * i + k) 0 < 200)) : folAt n zs i (k + 1) = folAt n zs i k := by
  unfold folAt
  refine List.map_congr_left fun b hb => ?_
  by_cases h1 : b < i
  · rw [if_pos h1, if_pos h1]
  · by_cases h2 : b = i
    · subst h2
      rw [if_neg h1, if_neg h1, if_pos rfl, if_pos rfl, folRow_no h]
    · rw [if_neg h1, if_neg h1, if_neg h2, if_neg h2]
theorem folRow_short (n : Nat) (zs : List Int) (i k : Nat) : (folRow n zs i k).length ≤ k := by
  unfold folRow
  have := List.length_filterMap_le (fun j => if 3 * i + j < zs.length ∧ zs.getD (3 * i + j) 0 < 200 then some (zs.getD (3 * i + j) 0 % n) else none) (List.range k)
  rwa [List.length_range] at this
theorem folAt_short (n : Nat) (zs : List Int) (i k b : Nat) (hk : k ≤ 3) : ((folAt n zs i k).getD b []).length ≤ 3 := by
  by_cases hb : b < n
  · rw [folAt_at hb]
    split
    · exact folRow_short _ _ _ _
    · split
      · exact Nat.le_trans (folRow_short _ _ _ _) hk
      · simp
  · rw [List.getD_eq_getElem?_getD, List.getElem?_eq_none (by rw [folAt_length]; omega)]
    simp
theorem followsL_ok (n : Nat) (zs : List Int) (hn : n ≤ 1000) (hz : ∀ i, 0 ≤ zs.getD i 0) : NextOk n (followsL n zs) := by
  refine ⟨by simp [followsL], fun l hl => ?_⟩
  obtain ⟨b, hb, rfl⟩ := List.mem_map.1 hl
  have hbn := List.mem_range.1 hb
  refine ⟨Nat.le_trans (folRow_short _ _ _ _) (by omega), fun x hx => ?_⟩
  unfold folRow at hx
  obtain ⟨j, _, hj⟩ := List.mem_filterMap.1 hx
  split at hj
  · cases hj
    exact ⟨Int.emod_nonneg _ (by omega), Int.emod_lt_of_pos _ (by omega)⟩
  · cases hj
set_option maxRecDepth 100000 in
set_option maxHeartbeats 8000000 in
theorem follows_l (n : Nat) (a : Option Addr) (m cap : Nat) (zs : List Int) (w : World) (h : Byts w a m zs) (hn : n ≤ 1000) :
    Calls Try.prog 26 #[.int .i64 n, .slice a m cap] w fun e w' => ∃ v, e = .returned v ∧ NewRows w w' v (followsL n zs) := by
  obtain ⟨i0, hi, hz0, hz1, hz2⟩ := info3_parts
  have hbig := h.big
  have HX := hide h
  clear h
  have hms := make36 w n (by omega)
  obtain ⟨B, hB⟩ : ∃ B, w.heap.size = B := ⟨_, rfl⟩
  have HBs : Hid (w.heap.size = B) := hB
  have HA0 := hide (rowsAt_made w (n := n) hB)
  have HK0 := hide ((Keeps.refl Non w).alloc (.cells (List.replicate n (Value.slice none 0 0)).toArray 22))
  clear hB
  go_enter Try.func26, Try.ntmps26
  go_wp2_with fail
  rw [HBs.out]
  obtain ⟨W, hW⟩ : ∃ W, w.alloc (.cells (List.replicate n (Value.slice none 0 0)).toArray 22) = W := ⟨_, rfl⟩
  have hW2 := hW
  simp only [List.toArray_replicate] at hW2
  rw [hW] at HA0 HK0 hms
  first | rw [hW] | rw [hW2]
  clear hW hW2 hms
  go_loopw [13] (fun t wr => ∃ (i : Nat) (S : List Value), i ≤ n ∧ t = .int .i64 i ∧ Hid (RowsAt wr B S (folAt n zs i 0)) ∧ Hid (Keeps Non w wr)) (fun t _ => n - (intOf t).toNat)
  case atStart => exact ⟨0, _, by omega, rfl, by rw [folAt_start]; exact HA0.out, HK0.out⟩
  case round =>
    clear HA0 HK0
    obtain ⟨i, S, hi1, rfl, HA, HK⟩ := hrel
    by_cases hlt : i < n
    · have x0 : (0 : Int) ≤ (i : Int) := by omega
      have x1 : (i : Int) < (n : Int) := by omega
      go_wp2_with fail
      go_loopw [16] (fun t wr => ∃ (k : Nat) (S : List Value), k ≤ 3 ∧ t = .int .i64 k ∧ Hid (RowsAt wr B S (folAt n zs i k)) ∧ Hid (Keeps Non w wr)) (fun t _ => 3 - (intOf t).toNat)
      case atStart => exact ⟨0, S, by omega, rfl, HA.out, HK.out⟩
      case round =>
        clear HA HK
        obtain ⟨k, S, hk, rfl, HA, HK⟩ := hrel
        by_cases hk3 : k < 3
        · have z0 : (0 : Int) ≤ (k : Int) := by omega
          have z1 : (k : Int) < 3 := by omega
          have HFno := fun h => hide (folAt_no (n := n) (zs := zs) (i := i) (k := k) h)
          have hzl : zs.length = m := HX.out.len
          by_cases hjm : 3 * i + k < m
          · obtain ⟨b1, o1, rfl, hb1, hc1⟩ := (HX.out.non HK.out).at (by omega)
            have c1 := hc1 (3 * i + k) hjm
            have hbd := HX.out.bd (3 * i + k)
            have HFy := fun h => hide (folAt_yes (n := n) (zs := zs) (i := i) (k := k) hlt h)
            obtain ⟨x, hx⟩ : ∃ x, zs.getD (3 * i + k) 0 = x := ⟨_, rfl⟩
            rw [hx] at c1 hbd HFno HFy
            obtain ⟨q0, q1⟩ := hbd
            have j1 : 3 * (i : Int) + (k : Int) < (m : Int) := by omega
            have j0 : (0 : Int) ≤ 3 * (i : Int) + (k : Int) := by omega
            have j2 : (3 * (i : Int) + (k : Int)).toNat = 3 * i + k := by omega
            by_cases hx2 : x < 200
            · have HF := HFy ⟨by rw [hzl]; exact hjm, hx2⟩
              have hml : (folAt n zs i k).length = n := folAt_length _ _ _ _
              obtain ⟨v, hv, ho⟩ := HA.out.row i (by omega)
              have hsh := folAt_short n zs i k i hk
              have HV := hide hv
              have cb : wr.cell? ⟨B, i, none⟩ = some v := by rw [HA.out.blk.cell]; exact hv
              have fb := HA.out.blk.free i none
              have lb := HA.out.blk.lt
              obtain ⟨ys, hys⟩ : ∃ ys, (folAt n zs i k).getD i [] = ys := ⟨_, rfl⟩
              rw [hys] at ho HF hsh
              obtain ⟨q, hq⟩ : ∃ q, ys.length = q := ⟨_, rfl⟩
              rw [hq] at ho hsh
              have HO := hide ho
              have HQ := hide hq
              have n0 : (0 : Int) < (n : Int) := by omega
              have n1 : ¬ (n : Int) = 0 := by omega
              have n3 : ¬ n = 0 := by omega
              have wx : IntKind.i64.wrap x = x := IntWalk.i64_in _ (by omega)
              have n2 : (x.tmod (n : Int)) = x % (n : Int) := Int.tmod_eq_emod_of_nonneg q0
              have m0 : 0 ≤ x % (n : Int) := Int.emod_nonneg _ n1
              have m1 : x % (n : Int) < (n : Int) := Int.emod_lt_of_pos _ n0
              obtain ⟨va, vc, rfl⟩ := owns_slice ho
              have hgB : some B ≠ (Value.slice va q vc).ownBlock := fun e => by
                have := own_ge HO.out B e.symm
                omega
              have HCb : Hid (∀ w5, (wr.drew.alloc (.cells #[.int .i64 (x % n)] 3)).grownBy w5 (Value.slice va q vc).ownBlock → w5.cell? ⟨B, i, none⟩ = some (.slice va q vc)) := fun w5 hgrow =>
                (World.cell?_of_block (w := wr.drew.alloc (.cells #[.int .i64 (x % n)] 3)) (hgrow.block B (by simp; omega) hgB)).trans (((((Keeps.refl Non wr).drew).alloc (.cells #[.int .i64 (x % n)] 3)).cell (p := ⟨B, i, none⟩) lb (fun x => x)).trans cb)
              have HFb : Hid (∀ w5, (wr.drew.alloc (.cells #[.int .i64 (x % n)] 3)).grownBy w5 (Value.slice va q vc).ownBlock → w5.frozen? ⟨B, i, none⟩ = false) := fun w5 hgrow =>
                (World.frozen?_of_block (w := wr.drew.alloc (.cells #[.int .i64 (x % n)] 3)) (hgrow.block B (by simp; omega) hgB)).trans (((((Keeps.refl Non wr).drew).alloc (.cells #[.int .i64 (x % n)] 3)).frozen (p := ⟨B, i, none⟩) lb (fun x => x)).trans fb)
              have HLb : Hid (∀ w5, (wr.drew.alloc (.cells #[.int .i64 (x % n)] 3)).grownBy w5 (Value.slice va q vc).ownBlock → B < w5.heap.size) := fun w5 hgrow => by
                have := hgrow.size
                simp at this
                omega
              clear HFno HFy hc1 hx hzl hml hv ho hys hq hgB
              go_wp2_with fail
              go_region_law (refine step_append_at rfl _ _ 22 rfl (B + 1) 3 i0 (.int .i64 0) 1 8 Try.underlying22 hi hz0 hz1 hz2 rfl (by decide) (.slice va q vc) q (ys.map (Value.int .i64)) (by rfl) (owns_keeps HO.out (((Keeps.refl Non wr).drew).alloc (.cells #[.int .i64 (x % n)] 3)) (fun _ _ x => x)) ⟨wr.heap.size, 0, none⟩ 1 1 [.int .i64 (x % n)] (by rfl) rfl (cell_one_new wr.drew _ _) (by intro u hu; simp at hu; subst hu; rfl) (by unfold maxLen; omega) (by omega) (by simp; omega) ?_; intro v' w5 hown hgrow hat; obtain ⟨a5, c5, rfl⟩ := owns_slice hown; have cb5 := HCb.out w5 hgrow; have fb5 := HFb.out w5 hgrow; have lb5 := HLb.out w5 hgrow)
              all_goals
                have HAn : Hid (RowsAt (w5.setCell ⟨B, i, none⟩ (.slice a5 (q + 1) c5)) B (S.set i (.slice a5 (q + 1) c5)) (folAt n zs i (k + 1))) := by
                  show RowsAt _ _ _ _
                  rw [HF.out]
                  refine HA.out.put (by rw [folAt_length]; exact hlt) HV.out (((Keeps.refl Non wr).drew).alloc _) ?_ hgrow (hat.imp id fun e g hg => ?_)
                  · rw [List.length_append, List.map_append, HQ.out]
                    exact hown
                  · rw [e] at hg
                    cases hg
                    simp
                have HKn : Hid (Keeps Non w (w5.setCell ⟨B, i, none⟩ (.slice a5 (q + 1) c5))) := (keeps_grown ((HK.out.drew).alloc _) hgrow (fun g hg => .inr (by have := own_ge HO.out g hg; have := HBs.out; omega))).set (.inr (by have := HBs.out; omega)) _
                clear hown hgrow hat cb5 fb5 lb5
                go_wp2_with fail
                go_roundw
                case rel => exact ⟨k + 1, _, by omega, by go_num, HAn.out, HKn.out⟩
                case measure => simp [intOf]; omega
            · have HF := HFno (fun h => hx2 h.2)
              clear HFno HFy hc1 hx hzl
              go_wp2_with fail
              go_roundw
              case rel => exact ⟨k + 1, S, by omega, by go_num, by rw [HF.out]; exact HA.out, HK.out⟩
              case measure => simp [intOf]; omega
          · have HF := HFno (fun h => hjm (by rw [← hzl]; exact h.1))
            have j1 : decide (3 * (i : Int) + (k : Int) < (m : Int)) = false := by simp; omega
            clear HFno hzl
            go_wp2_with fail
            go_roundw
            case rel => exact ⟨k + 1, S, by omega, by go_num, by rw [HF.out]; exact HA.out, HK.out⟩
            case measure => simp [intOf]; omega
        · obtain rfl : k = 3 := by omega
          go_wp2_with fail
          go_roundw
          case rel => exact ⟨i + 1, S, by omega, by go_num, by rw [← folAt_next]; exact HA.out, HK.out⟩
          case measure => simp [intOf]; omega
    · obtain rfl : n = i := by omega
      have y9 : ¬ (n : Int) < (n : Int) := by omega
      have HE : Hid (NewRows w wr (.slice (some ⟨B, 0, none⟩) n n) (followsL n zs)) := by
        refine ⟨B, S, by simp [followsL], by rw [HBs.out]; exact Nat.le_refl _, ?_, HK.out⟩
        rw [← folAt_end n zs 0]
        exact HA.out
      go_wp2_with fail
      go_ret
      exact ⟨_, rfl, HE.out⟩
end Go.Proofs.Ytkcbahfmdokalaa
