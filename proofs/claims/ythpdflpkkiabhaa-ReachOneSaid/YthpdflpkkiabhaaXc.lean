/-
  The reference: From. No condition.
-/
import Derived.Test.YthpdflpkkiabhaaXa
import Derived.Test.YthpdflpkkiabhaaPg
namespace Go.Proofs.Ythpdflpkkiabhaa
open Go.RowKit
attribute [local go_sem] onto_cell onto_frozen
set_option linter.unusedVariables false
set_option maxRecDepth 100000 in
set_option maxHeartbeats 4000000 in
theorem reffrom_l (a : Option Addr) (n cap : Nat) (next : List (List Int)) (st : Int) (w : World) (h : Rows w a n next) (hc : checkB next = true) (hs : 0 ≤ st ∧ st < (n : Int)) (hn : n ≤ 25) (ht : total next ≤ 200) :
    Calls Try.prog 55 #[.slice a n cap, .int .i64 st] w fun e w' => ∃ v, e = .returned v ∧ OwnI w w' v (fromL next n st) := by
  obtain ⟨i0, hi, hz0, hz1, hz2⟩ := info3_parts
  have HX := hide h
  have hlen := h.len
  have hsc := checkB_succ hc
  rw [hlen] at hsc
  have HSc := hide hsc
  have HLn := hide hlen
  have HTt := hide ht
  obtain ⟨fin, hfin⟩ : ∃ F, foundL (succL next) (-1) n [st] = F := ⟨_, rfl⟩
  have HFr : Hid (fromL next n st = fin.map Prod.fst) := by show _ = _; unfold fromL; rw [hfin]
  have hb : begins (-1) [st] [] = [(st, st)] := by
    simp only [begins, add]
    rw [if_neg]
    · rfl
    · rintro (h | h)
      · simp at h
      · omega
  have HB0 : Hid (bfs (succL next) (-1) n [(st, st)] 0 = fin) := by show _ = _; rw [← hfin, foundL, hb]
  have HOk0 : Hid (Ok n (-1) [(st, st)]) := by
    have := ok_begins (n := n) (o := -1) (l := [st]) (ok_nil n (-1)) (fun x hx => by rw [List.mem_singleton.1 hx]; exact hs)
    rwa [hb] at this
  have HOw0 : Hid ((w.alloc (.cells #[.int .i64 st] 3)).ownsRow w.heap.size 3 1 (.slice (some ⟨w.heap.size, 0, none⟩) 1 1) 1 [.int .i64 st]) := ⟨rfl, .inr ⟨w.heap.size, 1, #[.int .i64 st], rfl, Nat.le_refl _, heap_alloc_new w _, Nat.le_refl _, by unfold maxLen; omega, rfl, rfl⟩⟩
  have HK0 := hide ((Keeps.refl Non w).alloc (.cells #[.int .i64 st] 3))
  clear h hc hsc hlen ht hfin hb
  go_enter Try.func55, Try.ntmps55
  go_wp2_with fail
  obtain ⟨W0, hW0⟩ : ∃ W, w.alloc (.cells #[.int .i64 st] 3) = W := ⟨_, rfl⟩
  rw [hW0] at HOw0 HK0
  try rw [hW0]
  clear hW0
  go_loopw [6, 5] (fun i v wr => ∃ (k f : Nat) (F : List (Int × Int)), i = .int .i64 k ∧ k ≤ F.length ∧ n ≤ k + f ∧ F.length ≤ n ∧ Hid (Ok n (-1) F) ∧ Hid (bfs (succL next) (-1) f F k = fin) ∧ Hid (wr.ownsRow w.heap.size 3 1 v F.length ((F.map Prod.fst).map (Value.int .i64))) ∧ Hid (Keeps Non w wr)) (fun i _ _ => n + 1 - (intOf i).toNat)
  case atStart => exact ⟨0, n, [(st, st)], rfl, by simp, by omega, by simp; omega, HOk0.out, HB0.out, HOw0.out, HK0.out⟩
  case round =>
    clear HOk0 HB0 HOw0 HK0
    obtain ⟨k, f, F, rfl, hkF, hkf, hFn, HOk, HBf, HO, HK⟩ := hrel
    obtain ⟨Fl, hFl⟩ : ∃ l, F.length = l := ⟨_, rfl⟩
    rw [hFl] at hkF hFn HO
    have HFl := hide hFl
    clear hFl
    obtain ⟨a9, c9, hv9, hIo⟩ := ints_of_owns HO.out (by omega)
    subst hv9
    have HIo := hide hIo
    clear hIo
    by_cases hlt : k < Fl
    · obtain ⟨x, hx⟩ : ∃ x, F[k]? = some x := ⟨_, List.getElem?_eq_getElem (by rw [HFl.out]; exact hlt)⟩
      have hxb := HOk.out.pt x (List.mem_of_getElem? hx)
      have hgx : (F.map Prod.fst).getD k 0 = x.1 := by rw [List.getD_eq_getElem?_getD, List.getElem?_map, hx]; rfl
      obtain ⟨f', rfl⟩ : ∃ g, f = g + 1 := ⟨f - 1, by omega⟩
      have hst := bfs_step (succL next) (-1) f' F k x hx
      obtain ⟨p, hp⟩ : ∃ p, x.1 = p := ⟨_, rfl⟩
      rw [hp] at hxb hgx hst
      obtain ⟨pi, rfl⟩ := Int.eq_ofNat_of_zero_le hxb.1
      have hpn : pi < n := by omega
      have hll0 : succL next (pi : Int) = next.getD pi [] := by unfold succL; rw [Int.toNat_natCast]
      obtain ⟨b1, o1, hb1, lb1, hc1⟩ := HIo.out.at (by omega)
      subst hb1
      have ck := hc1 k hlt
      rw [hgx] at ck
      obtain ⟨b2, o2, hb2, lb2, hc2⟩ := (HX.out.non HK.out).at (by omega)
      subst hb2
      obtain ⟨ai, ci, cr, hI⟩ := hc2 pi hpn
      have hrl : (next.getD pi []).length ≤ 200 := by
        have h1 := total_take_succ (next := next) (k := pi) (by have := HLn.out; omega)
        have h2 := total_take_le next (pi + 1)
        have := HTt.out
        omega
      obtain ⟨ll, hll⟩ : ∃ l, next.getD pi [] = l := ⟨_, rfl⟩
      obtain ⟨ln, hln⟩ : ∃ l, ll.length = l := ⟨_, rfl⟩
      rw [hll, hln] at cr hI hrl
      rw [hll] at hll0
      rw [hll0] at hst
      have HIr : Hid (∀ w', Keeps Non w w' → Ints w' ai ln ll) := by
        obtain ⟨b3, o3, hb3, lb3, hc3⟩ := HX.out.at (by omega)
        cases hb3
        obtain ⟨ai3, ci3, cr3, hI3⟩ := hc3 pi hpn
        have e3 := (HK.out.cell (p := ⟨b2, o2 + pi, none⟩) lb3 (fun x => x)).trans cr3
        rw [cr] at e3
        rw [hll, hln] at e3 hI3
        cases e3
        exact fun w' hk => hI3.non hk
      have HSt := hide (hst.symm.trans HBf.out)
      have HLl := hide hln
      have HIn : Hid (∀ t ∈ ll, 0 ≤ t ∧ t < (n : Int)) := fun t ht => HSc.out pi (by omega) t (by rw [hll0]; exact ht)
      have k0 : (0 : Int) ≤ (k : Int) := by omega
      have k1 : (k : Int) < (Fl : Int) := by omega
      have p0 : (0 : Int) ≤ (pi : Int) := by omega
      have p1 : (pi : Int) < (n : Int) := by omega
      clear hx hgx hst hc1 hc2 hI hll hln hll0 hp
      go_wp2_with fail
      have HO0 := hide HO.out
      have HK0 := hide HK.out
      clear ck cr
      go_loopw [8, 5] (fun t v wi => ∃ (q : Nat), q ≤ ln ∧ t = .int .i64 q ∧ (adds (-1) pi (ll.take q) F).length ≤ n ∧ Hid (Ok n (-1) (adds (-1) pi (ll.take q) F)) ∧ Hid (wi.ownsRow w.heap.size 3 1 v (adds (-1) pi (ll.take q) F).length (((adds (-1) pi (ll.take q) F).map Prod.fst).map (Value.int .i64))) ∧ Hid (Keeps Non w wi)) (fun t _ _ => ln - (intOf t).toNat)
      case atStart => exact ⟨0, by omega, rfl, by rw [List.take_zero]; show F.length ≤ n; rw [HFl.out]; exact hFn, HOk.out, by rw [List.take_zero]; show World.ownsRow _ _ _ _ _ F.length _; rw [HFl.out]; exact HO0.out, HK0.out⟩
      case round =>
        clear HO HK HO0 HK0 HIo
        obtain ⟨q, hq, rfl, hGn, HOk2, HO, HK⟩ := hrel
        have hlll := HLl.out
        by_cases hql : q < ln
        · have hsn : adds (-1) pi (ll.take (q + 1)) F = add (-1) (adds (-1) pi (ll.take q) F) (ll.getD q 0) pi := by
            rw [take_snocI (N := ll) (i := q) (b := ll.getD q 0) (by omega) rfl]
            exact adds_snoc _ _ _ _ _
          have hmem : ll.getD q 0 ∈ ll := by rw [getD_num (by omega)]; exact List.getElem_mem _
          have hob : Ok n (-1) (adds (-1) pi (ll.take (q + 1)) F) := by rw [hsn]; exact ok_add HOk2.out (HIn.out _ hmem)
          obtain ⟨G, hG⟩ : ∃ G, adds (-1) pi (ll.take q) F = G := ⟨_, rfl⟩
          obtain ⟨gl, hgl⟩ : ∃ l, G.length = l := ⟨_, rfl⟩
          obtain ⟨x, hx⟩ : ∃ x, ll.getD q 0 = x := ⟨_, rfl⟩
          rw [hG] at hsn hGn HOk2 HO
          rw [hgl] at hGn HO
          rw [hx] at hsn hmem
          have hxb := HIn.out x hmem
          obtain ⟨a9, c9, hv9, hIo⟩ := ints_of_owns HO.out (by omega)
          subst hv9
          obtain ⟨b3, o3, hb3, lb3, hc3⟩ := (HIr.out wr HK.out).at (by omega)
          subst hb3
          have cq := hc3 q hql
          rw [hx] at cq
          have HH := hide (has_l a9 gl c9 (G.map Prod.fst) x wr hIo)
          have HGl := hide hgl
          have HSn := hide hsn
          have HOb := hide hob
          have q0 : (0 : Int) ≤ (q : Int) := by omega
          have q1 : (q : Int) < (ln : Int) := by omega
          by_cases hin : x ∈ G.map Prod.fst
          · rw [decide_eq_true hin] at HH
            have HE : Hid (adds (-1) pi (ll.take (q + 1)) F = G) := by show _ = _; rw [hsn, add, if_pos (.inl hin)]
            clear hsn hmem hob hG hgl hx hIo hc3 hin HSn hlll
            go_wp2_with fail
            refine HH.out.mono ?_
            rintro e w4 ⟨rfl, hk4⟩
            have HK4 := hide (HK.out.then hk4)
            have HU4 := hide (owns_keeps HO.out hk4 (fun _ _ x => x))
            clear hk4 HH
            go_wp2_with fail
            go_roundw
            case rel => exact ⟨q + 1, by omega, by go_num, by rw [HE.out, HGl.out]; exact hGn, HOb.out, by rw [HE.out, HGl.out]; exact HU4.out, HK4.out⟩
            case measure => simp [intOf]; omega
          · rw [decide_eq_false hin] at HH
            have HE : Hid (adds (-1) pi (ll.take (q + 1)) F = G ++ [(x, (pi : Int))]) := by
              show _ = _
              rw [hsn, add, if_neg]
              rintro (h1 | h1)
              · exact hin h1
              · omega
            have hnn := hob.few
            rw [HE.out, List.length_append, hgl] at hnn
            simp only [List.length_cons, List.length_nil] at hnn
            clear hsn hmem hob hG hgl hx hIo hc3 hin HSn hlll
            go_wp2_with fail
            refine HH.out.mono ?_
            rintro e w4 ⟨rfl, hk4⟩
            have HK4 := hide (HK.out.then hk4)
            have HU4 := hide (owns_keeps HO.out hk4 (fun _ _ x => x))
            have cq4 := (hk4.cell (p := ⟨b3, o3 + q, none⟩) lb3 (fun x => x)).trans cq
            have lb4 := Nat.lt_of_lt_of_le lb3 hk4.size
            clear hk4 HH cq lb3
            go_wp2_with (at_builtin; refine wpList_append_own_at _ rfl _ _ 25 rfl w.heap.size 3 i0 (.int .i64 0) 1 8 Try.underlying25 hi hz0 hz1 hz2 rfl (by decide) (.slice a9 gl c9) gl ((G.map Prod.fst).map (Value.int .i64)) rfl (owns_keeps HU4.out ((Keeps.refl Non _).alloc _) (fun _ _ x => x)) ⟨w4.heap.size, 0, none⟩ 1 1 [.int .i64 x] rfl ?qc1 ?qc2 ?qc3 ?qc4 ?qc5 ?qc6 ?_)
            case qc1 => rfl
            case qc2 => exact cell_one_new _ _ _
            case qc3 => intro u hu; simp at hu; subst hu; rfl
            case qc4 => unfold maxLen; omega
            case qc5 => omega
            case qc6 => simp; have := HK4.out.size; omega
            intro v' w5 hown hgrow hnil2 hat
            have hl5 : (G ++ [(x, (pi : Int))]).length = gl + 1 := by rw [List.length_append, HGl.out]; rfl
            have he5 : ((G ++ [(x, (pi : Int))]).map Prod.fst).map (Value.int .i64) = ((G.map Prod.fst).map (Value.int .i64)) ++ [Value.int .i64 x] := by rw [List.map_append, List.map_append]; rfl
            have HO5 : Hid (w5.ownsRow w.heap.size 3 1 v' (G ++ [(x, (pi : Int))]).length (((G ++ [(x, (pi : Int))]).map Prod.fst).map (Value.int .i64))) := by
              show World.ownsRow _ _ _ _ _ _ _
              rw [hl5, he5, List.map_map]
              exact hown
            have HG5 := hide (keeps_grown (Keeps.refl (fun b => some b = Value.ownBlock (.slice a9 gl c9)) _) hgrow (fun g hg => .inl hg.symm))
            have HLt := hide (owns_here HO.out)
            have HL5 := hide hl5
            clear hown hgrow hnil2 hat hl5 he5
            go_wp2_with fail
            go_roundw
            case rel => exact ⟨q + 1, by omega, by go_num, by rw [HE.out, HL5.out]; omega, HOb.out, by rw [HE.out]; exact HO5.out, (HK4.out.alloc _).trans HG5.out (fun i hi e => by have := (HLt.out i e.symm).1; omega)⟩
            case measure => simp [intOf]; omega
        · have hqq : q = ln := by omega
          subst hqq
          have y9 : ¬ (q : Int) < (q : Int) := by omega
          have htk : ll.take q = ll := List.take_of_length_le (by omega)
          rw [htk] at hGn HOk2 HO
          have hpl := (adds_pre (-1) pi ll F).length_le
          rw [HFl.out] at hpl
          clear htk hlll
          go_wp2_with fail
          go_roundw
          case rel => exact ⟨k + 1, f', adds (-1) pi ll F, by go_num, by omega, by omega, hGn, HOk2.out, HSt.out, HO.out, HK.out⟩
          case measure => simp [intOf]; omega
    · have hkl : k = Fl := by omega
      subst hkl
      have y9 : ¬ (k : Int) < (k : Int) := by omega
      have hst := bfs_stop (succL next) (-1) f F k (by rw [HFl.out]; exact Nat.le_refl _)
      have HE : Hid (fromL next n st = F.map Prod.fst) := by show _ = _; rw [HFr.out, ← HBf.out, hst]
      clear hst
      go_wp2_with fail
      try rw [Exit.noGoto_ret]
      go_ret
      exact ⟨_, rfl, by rw [HE.out, List.length_map, HFl.out]; exact HO.out, HK.out⟩
end Go.Proofs.Ythpdflpkkiabhaa
