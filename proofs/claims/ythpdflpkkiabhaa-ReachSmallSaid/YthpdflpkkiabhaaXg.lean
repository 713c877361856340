/-
  The reference: From. No condition. one: what is done from a start, compared with the reference. No condition.
-/
import Derived.Test.YthpdflpkkiabhaaXa
import Derived.Test.YthpdflpkkiabhaaPg
import Derived.Test.YthpdflpkkiabhaaXe
import Derived.Test.YthpdflpkkiabhaaXf
import Derived.Test.YthpdflpkkiabhaaXu
import Derived.Test.YthpdflpkkiabhaaLf
namespace Go.Proofs.Ythpdflpkkiabhaa
section
open Go.RowKit
attribute [local go_sem] onto_cell onto_frozen
set_option linter.unusedVariables false
set_option maxRecDepth 100000 in
set_option maxHeartbeats 4000000 in
theorem reffrom_l (a : Option Addr) (n cap : Nat) (next : List (List Int)) (st : Int) (w : World) (h : Rows w a n next) (hc : checkB next = true) (hs : 0 ≤ st ∧ st < (n : Int)) (hn : n ≤ 25) (ht : total next ≤ 200) :
    Calls Try.prog 55 #[.slice a n cap, .int .i64 st] w fun e w' => ∃ v, e = .returned v ∧ OwnI w w' v (fromL next n st) := by
  obtain ⟨i0, hi, hz0, hz1, hz2⟩ := info3_parts
  have HX := hide h
  have hlen := h.len
  have hsc := checkB_succ hc
  rw [hlen] at hsc
  have HSc := hide hsc
  have HLn := hide hlen
  have HTt := hide ht
  obtain ⟨fin, hfin⟩ : ∃ F, foundL (succL next) (-1) n [st] = F := ⟨_, rfl⟩
  have HFr : Hid (fromL next n st = fin.map Prod.fst) := by show _ = _; unfold fromL; rw [hfin]
  have hb : begins (-1) [st] [] = [(st, st)] := by
    simp only [begins, add]
    rw [if_neg]
    · rfl
    · rintro (h | h)
      · simp at h
      · omega
  have HB0 : Hid (bfs (succL next) (-1) n [(st, st)] 0 = fin) := by show _ = _; rw [← hfin, foundL, hb]
  have HOk0 : Hid (Ok n (-1) [(st, st)]) := by
    have := ok_begins (n := n) (o := -1) (l := [st]) (ok_nil n (-1)) (fun x hx => by rw [List.mem_singleton.1 hx]; exact hs)
    rwa [hb] at this
  have HOw0 : Hid ((w.alloc (.cells #[.int .i64 st] 3)).ownsRow w.heap.size 3 1 (.slice (some ⟨w.heap.size, 0, none⟩) 1 1) 1 [.int .i64 st]) := ⟨rfl, .inr ⟨w.heap.size, 1, #[.int .i64 st], rfl, Nat.le_refl _, heap_alloc_new w _, Nat.le_refl _, by unfold maxLen; omega, rfl, rfl⟩⟩
  have HK0 := hide ((Keeps.refl Non w).alloc (.cells #[.int .i64 st] 3))
  clear h hc hsc hlen ht hfin hb
  go_enter Try.func55, Try.ntmps55
  go_wp2_with fail
  obtain ⟨W0, hW0⟩ : ∃ W, w.alloc (.cells #[.int .i64 st] 3) = W := ⟨_, rfl⟩
  rw [hW0] at HOw0 HK0
  try rw [hW0]
  clear hW0
  go_loopw [6, 5] (fun i v wr => ∃ (k f : Nat) (F : List (Int × Int)), i = .int .i64 k ∧ k ≤ F.length ∧ n ≤ k + f ∧ F.length ≤ n ∧ Hid (Ok n (-1) F) ∧ Hid (bfs (succL next) (-1) f F k = fin) ∧ Hid (wr.ownsRow w.heap.size 3 1 v F.length ((F.map Prod.fst).map (Value.int .i64))) ∧ Hid (Keeps Non w wr)) (fun i _ _ => n + 1 - (intOf i).toNat)
  case atStart => exact ⟨0, n, [(st, st)], rfl, by simp, by omega, by simp; omega, HOk0.out, HB0.out, HOw0.out, HK0.out⟩
  case round =>
    clear HOk0 HB0 HOw0 HK0
    obtain ⟨k, f, F, rfl, hkF, hkf, hFn, HOk, HBf, HO, HK⟩ := hrel
    obtain ⟨Fl, hFl⟩ : ∃ l, F.length = l := ⟨_, rfl⟩
    rw [hFl] at hkF hFn HO
    have HFl := hide hFl
    clear hFl
    obtain ⟨a9, c9, hv9, hIo⟩ := ints_of_owns HO.out (by omega)
    subst hv9
    have HIo := hide hIo
    clear hIo
    by_cases hlt : k < Fl
    · obtain ⟨x, hx⟩ : ∃ x, F[k]? = some x := ⟨_, List.getElem?_eq_getElem (by rw [HFl.out]; exact hlt)⟩
      have hxb := HOk.out.pt x (List.mem_of_getElem? hx)
      have hgx : (F.map Prod.fst).getD k 0 = x.1 := by rw [List.getD_eq_getElem?_getD, List.getElem?_map, hx]; rfl
      obtain ⟨f', rfl⟩ : ∃ g, f = g + 1 := ⟨f - 1, by omega⟩
      have hst := bfs_step (succL next) (-1) f' F k x hx
      obtain ⟨p, hp⟩ : ∃ p, x.1 = p := ⟨_, rfl⟩
      rw [hp] at hxb hgx hst
      obtain ⟨pi, rfl⟩ := Int.eq_ofNat_of_zero_le hxb.1
      have hpn : pi < n := by omega
      have hll0 : succL next (pi : Int) = next.getD pi [] := by unfold succL; rw [Int.toNat_natCast]
      obtain ⟨b1, o1, hb1, lb1, hc1⟩ := HIo.out.at (by omega)
      subst hb1
      have ck := hc1 k hlt
      rw [hgx] at ck
      obtain ⟨b2, o2, hb2, lb2, hc2⟩ := (HX.out.non HK.out).at (by omega)
      subst hb2
      obtain ⟨ai, ci, cr, hI⟩ := hc2 pi hpn
      have hrl : (next.getD pi []).length ≤ 200 := by
        have h1 := total_take_succ (next := next) (k := pi) (by have := HLn.out; omega)
        have h2 := total_take_le next (pi + 1)
        have := HTt.out
        omega
      obtain ⟨ll, hll⟩ : ∃ l, next.getD pi [] = l := ⟨_, rfl⟩
      obtain ⟨ln, hln⟩ : ∃ l, ll.length = l := ⟨_, rfl⟩
      rw [hll, hln] at cr hI hrl
      rw [hll] at hll0
      rw [hll0] at hst
      have HIr : Hid (∀ w', Keeps Non w w' → Ints w' ai ln ll) := by
        obtain ⟨b3, o3, hb3, lb3, hc3⟩ := HX.out.at (by omega)
        cases hb3
        obtain ⟨ai3, ci3, cr3, hI3⟩ := hc3 pi hpn
        have e3 := (HK.out.cell (p := ⟨b2, o2 + pi, none⟩) lb3 (fun x => x)).trans cr3
        rw [cr] at e3
        rw [hll, hln] at e3 hI3
        cases e3
        exact fun w' hk => hI3.non hk
      have HSt := hide (hst.symm.trans HBf.out)
      have HLl := hide hln
      have HIn : Hid (∀ t ∈ ll, 0 ≤ t ∧ t < (n : Int)) := fun t ht => HSc.out pi (by omega) t (by rw [hll0]; exact ht)
      have k0 : (0 : Int) ≤ (k : Int) := by omega
      have k1 : (k : Int) < (Fl : Int) := by omega
      have p0 : (0 : Int) ≤ (pi : Int) := by omega
      have p1 : (pi : Int) < (n : Int) := by omega
      clear hx hgx hst hc1 hc2 hI hll hln hll0 hp
      go_wp2_with fail
      have HO0 := hide HO.out
      have HK0 := hide HK.out
      clear ck cr
      go_loopw [8, 5] (fun t v wi => ∃ (q : Nat), q ≤ ln ∧ t = .int .i64 q ∧ (adds (-1) pi (ll.take q) F).length ≤ n ∧ Hid (Ok n (-1) (adds (-1) pi (ll.take q) F)) ∧ Hid (wi.ownsRow w.heap.size 3 1 v (adds (-1) pi (ll.take q) F).length (((adds (-1) pi (ll.take q) F).map Prod.fst).map (Value.int .i64))) ∧ Hid (Keeps Non w wi)) (fun t _ _ => ln - (intOf t).toNat)
      case atStart => exact ⟨0, by omega, rfl, by rw [List.take_zero]; show F.length ≤ n; rw [HFl.out]; exact hFn, HOk.out, by rw [List.take_zero]; show World.ownsRow _ _ _ _ _ F.length _; rw [HFl.out]; exact HO0.out, HK0.out⟩
      case round =>
        clear HO HK HO0 HK0 HIo
        obtain ⟨q, hq, rfl, hGn, HOk2, HO, HK⟩ := hrel
        have hlll := HLl.out
        by_cases hql : q < ln
        · have hsn : adds (-1) pi (ll.take (q + 1)) F = add (-1) (adds (-1) pi (ll.take q) F) (ll.getD q 0) pi := by
            rw [take_snocI (N := ll) (i := q) (b := ll.getD q 0) (by omega) rfl]
            exact adds_snoc _ _ _ _ _
          have hmem : ll.getD q 0 ∈ ll := by rw [getD_num (by omega)]; exact List.getElem_mem _
          have hob : Ok n (-1) (adds (-1) pi (ll.take (q + 1)) F) := by rw [hsn]; exact ok_add HOk2.out (HIn.out _ hmem)
          obtain ⟨G, hG⟩ : ∃ G, adds (-1) pi (ll.take q) F = G := ⟨_, rfl⟩
          obtain ⟨gl, hgl⟩ : ∃ l, G.length = l := ⟨_, rfl⟩
          obtain ⟨x, hx⟩ : ∃ x, ll.getD q 0 = x := ⟨_, rfl⟩
          rw [hG] at hsn hGn HOk2 HO
          rw [hgl] at hGn HO
          rw [hx] at hsn hmem
          have hxb := HIn.out x hmem
          obtain ⟨a9, c9, hv9, hIo⟩ := ints_of_owns HO.out (by omega)
          subst hv9
          obtain ⟨b3, o3, hb3, lb3, hc3⟩ := (HIr.out wr HK.out).at (by omega)
          subst hb3
          have cq := hc3 q hql
          rw [hx] at cq
          have HH := hide (has_l a9 gl c9 (G.map Prod.fst) x wr hIo)
          have HGl := hide hgl
          have HSn := hide hsn
          have HOb := hide hob
          have q0 : (0 : Int) ≤ (q : Int) := by omega
          have q1 : (q : Int) < (ln : Int) := by omega
          by_cases hin : x ∈ G.map Prod.fst
          · rw [decide_eq_true hin] at HH
            have HE : Hid (adds (-1) pi (ll.take (q + 1)) F = G) := by show _ = _; rw [hsn, add, if_pos (.inl hin)]
            clear hsn hmem hob hG hgl hx hIo hc3 hin HSn hlll
            go_wp2_with fail
            refine HH.out.mono ?_
            rintro e w4 ⟨rfl, hk4⟩
            have HK4 := hide (HK.out.then hk4)
            have HU4 := hide (owns_keeps HO.out hk4 (fun _ _ x => x))
            clear hk4 HH
            go_wp2_with fail
            go_roundw
            case rel => exact ⟨q + 1, by omega, by go_num, by rw [HE.out, HGl.out]; exact hGn, HOb.out, by rw [HE.out, HGl.out]; exact HU4.out, HK4.out⟩
            case measure => simp [intOf]; omega
          · rw [decide_eq_false hin] at HH
            have HE : Hid (adds (-1) pi (ll.take (q + 1)) F = G ++ [(x, (pi : Int))]) := by
              show _ = _
              rw [hsn, add, if_neg]
              rintro (h1 | h1)
              · exact hin h1
              · omega
            have hnn := hob.few
            rw [HE.out, List.length_append, hgl] at hnn
            simp only [List.length_cons, List.length_nil] at hnn
            clear hsn hmem hob hG hgl hx hIo hc3 hin HSn hlll
            go_wp2_with fail
            refine HH.out.mono ?_
            rintro e w4 ⟨rfl, hk4⟩
            have HK4 := hide (HK.out.then hk4)
            have HU4 := hide (owns_keeps HO.out hk4 (fun _ _ x => x))
            have cq4 := (hk4.cell (p := ⟨b3, o3 + q, none⟩) lb3 (fun x => x)).trans cq
            have lb4 := Nat.lt_of_lt_of_le lb3 hk4.size
            clear hk4 HH cq lb3
            go_wp2_with (at_builtin; refine wpList_append_own_at _ rfl _ _ 25 rfl w.heap.size 3 i0 (.int .i64 0) 1 8 Try.underlying25 hi hz0 hz1 hz2 rfl (by decide) (.slice a9 gl c9) gl ((G.map Prod.fst).map (Value.int .i64)) rfl (owns_keeps HU4.out ((Keeps.refl Non _).alloc _) (fun _ _ x => x)) ⟨w4.heap.size, 0, none⟩ 1 1 [.int .i64 x] rfl ?qc1 ?qc2 ?qc3 ?qc4 ?qc5 ?qc6 ?_)
            case qc1 => rfl
            case qc2 => exact cell_one_new _ _ _
            case qc3 => intro u hu; simp at hu; subst hu; rfl
            case qc4 => unfold maxLen; omega
            case qc5 => omega
            case qc6 => simp; have := HK4.out.size; omega
            intro v' w5 hown hgrow hnil2 hat
            have hl5 : (G ++ [(x, (pi : Int))]).length = gl + 1 := by rw [List.length_append, HGl.out]; rfl
            have he5 : ((G ++ [(x, (pi : Int))]).map Prod.fst).map (Value.int .i64) = ((G.map Prod.fst).map (Value.int .i64)) ++ [Value.int .i64 x] := by rw [List.map_append, List.map_append]; rfl
            have HO5 : Hid (w5.ownsRow w.heap.size 3 1 v' (G ++ [(x, (pi : Int))]).length (((G ++ [(x, (pi : Int))]).map Prod.fst).map (Value.int .i64))) := by
              show World.ownsRow _ _ _ _ _ _ _
              rw [hl5, he5, List.map_map]
              exact hown
            have HG5 := hide (keeps_grown (Keeps.refl (fun b => some b = Value.ownBlock (.slice a9 gl c9)) _) hgrow (fun g hg => .inl hg.symm))
            have HLt := hide (owns_here HO.out)
            have HL5 := hide hl5
            clear hown hgrow hnil2 hat hl5 he5
            go_wp2_with fail
            go_roundw
            case rel => exact ⟨q + 1, by omega, by go_num, by rw [HE.out, HL5.out]; omega, HOb.out, by rw [HE.out]; exact HO5.out, (HK4.out.alloc _).trans HG5.out (fun i hi e => by have := (HLt.out i e.symm).1; omega)⟩
            case measure => simp [intOf]; omega
        · have hqq : q = ln := by omega
          subst hqq
          have y9 : ¬ (q : Int) < (q : Int) := by omega
          have htk : ll.take q = ll := List.take_of_length_le (by omega)
          rw [htk] at hGn HOk2 HO
          have hpl := (adds_pre (-1) pi ll F).length_le
          rw [HFl.out] at hpl
          clear htk hlll
          go_wp2_with fail
          go_roundw
          case rel => exact ⟨k + 1, f', adds (-1) pi ll F, by go_num, by omega, by omega, hGn, HOk2.out, HSt.out, HO.out, HK.out⟩
          case measure => simp [intOf]; omega
    · have hkl : k = Fl := by omega
      subst hkl
      have y9 : ¬ (k : Int) < (k : Int) := by omega
      have hst := bfs_stop (succL next) (-1) f F k (by rw [HFl.out]; exact Nat.le_refl _)
      have HE : Hid (fromL next n st = F.map Prod.fst) := by show _ = _; rw [HFr.out, ← HBf.out, hst]
      clear hst
      go_wp2_with fail
      try rw [Exit.noGoto_ret]
      go_ret
      exact ⟨_, rfl, by rw [HE.out, List.length_map, HFl.out]; exact HO.out, HK.out⟩
end
section
open Go.RowKit
attribute [local go_sem] onto_cell onto_frozen
set_option linter.unusedVariables false
theorem y_from (a : Option Addr) (n cap : Nat) (next : List (List Int)) (st : Int) (A : List Int) (L : Nat) (w : World) (h : Rows w a n next) (hc : checkB next = true) (hs : 0 ≤ st ∧ st < n) (hA : fromL next n st = A) (hL : A.length = L) (hb : L ≤ 100000) :
    Calls Try.prog 27 #[.slice a n cap, .int .i64 st] w fun e w' => ∃ a' c', e = .returned (.tuple #[.slice a' L c', .int .i64 0]) ∧ Ints w' a' L A ∧ Keeps Non w w' :=
  (from_yes a n cap next st w h hc hs).mono fun e w' ⟨v, he, hO⟩ => by
    rw [hA] at hO
    obtain ⟨a9, c9, rfl, hI⟩ := ints_of_owns hO.1 (by omega)
    rw [hL] at hI he
    exact ⟨a9, c9, he, hI, hO.2⟩
theorem y_ways (a : Option Addr) (n cap : Nat) (next : List (List Int)) (st : Int) (W : List Int) (w : World) (h : Rows w a n next) (hc : checkB next = true) (hs : 0 ≤ st ∧ st < n) (hW : waysL next n st = W) :
    Calls Try.prog 15 #[.slice a n cap, .int .i64 st] w fun e w' => ∃ b, e = .returned (.tuple #[.slice (some ⟨b, 0, none⟩) n n, .int .i64 0]) ∧ Ints w' (some ⟨b, 0, none⟩) n W ∧ Keeps Non w w' := by
  have hl : (waysL next n st).length = n := goW_length _ _
  have hb := h.big
  refine (ways_yes a n cap next st w h hc hs).mono fun e w' ⟨v, he, b, hv, _, hB, hk⟩ => ?_
  subst hv
  rw [hW] at hl hB he
  have hI := ints_of_blk hB (by omega)
  rw [hl] at hI he
  exact ⟨b, he, hI, hk⟩
theorem y_newrows {w w' : World} {v : Value} {xss : List (List Int)} {n : Nat} (h : NewRows w w' v xss) (hl : xss.length = n) (hn : n ≤ 100000) (hs : ∀ i, (xss.getD i []).length ≤ 100000) : ∃ b, v = .slice (some ⟨b, 0, none⟩) n n ∧ Rows w' (some ⟨b, 0, none⟩) n xss ∧ Keeps Non w w' := by
  obtain ⟨B, S, hv, _, hR, hk⟩ := h
  have hr := hR.rows (by omega) (fun i => by have := hs i; omega)
  rw [hl] at hr hv
  exact ⟨B, hv, hr, hk⟩
theorem y_musts (a : Option Addr) (n cap : Nat) (next : List (List Int)) (st : Int) (M : List (List Int)) (w : World) (h : Rows w a n next) (hc : checkB next = true) (hs : 0 ≤ st ∧ st < n) (hM : mustsL next n st = M) (hn : n ≤ 100000) :
    Calls Try.prog 36 #[.slice a n cap, .int .i64 st] w fun e w' => ∃ b, e = .returned (.tuple #[.slice (some ⟨b, 0, none⟩) n n, .int .i64 0]) ∧ Rows w' (some ⟨b, 0, none⟩) n M ∧ Keeps Non w w' :=
  (musts_yes a n cap next st w h hc hs).mono fun e w' ⟨v, he, hN⟩ => by
    have hlen := h.len
    have hsh := fun p => mustsL_short2 (s := st) hc (by rw [hlen]; exact hs) n p
    rw [hlen] at hsh
    obtain ⟨b, hv, hR, hk⟩ := y_newrows hN (mustTo_length _ _ _ _) hn (fun i => Nat.le_trans (hsh i) (by omega))
    subst hv
    rw [hM] at hR
    exact ⟨b, he, hR, hk⟩
theorem y_back (a : Option Addr) (n cap : Nat) (next : List (List Int)) (M : List (List Int)) (w : World) (h : Rows w a n next) (hc : checkB next = true) (hM : backL next n = M) (hn : n ≤ 100000) :
    Calls Try.prog 31 #[.slice a n cap] w fun e w' => ∃ b, e = .returned (.tuple #[.slice (some ⟨b, 0, none⟩) n n, .int .i64 0]) ∧ Rows w' (some ⟨b, 0, none⟩) n M ∧ Keeps Non w w' :=
  (back_yes a n cap next w h hc).mono fun e w' ⟨v, he, hN⟩ => by
    have hlen := h.len
    have hsh := fun i => backTo_short next n n (by omega) i
    have ht := total_take_le next n
    have hc2 := (checkB_iff.1 hc).2.1
    obtain ⟨b, hv, hR, hk⟩ := y_newrows hN (backL_length _ _) hn (fun i => by have := hsh i; unfold backL; omega)
    subst hv
    rw [hM] at hR
    exact ⟨b, he, hR, hk⟩
theorem y_rings (a : Option Addr) (n cap : Nat) (next : List (List Int)) (R : List Int) (w : World) (h : Rows w a n next) (hc : checkB next = true) (hR : ringsL next n = R) :
    Calls Try.prog 14 #[.slice a n cap] w fun e w' => ∃ b, e = .returned (.tuple #[.slice (some ⟨b, 0, none⟩) n n, .int .i64 0]) ∧ Ints w' (some ⟨b, 0, none⟩) n R ∧ Keeps Non w w' := by
  have hl := ringsL_length next n
  have hb := h.big
  refine (rings_yes a n cap next w h hc).mono fun e w' ⟨v, he, b, hv, _, hB, hk⟩ => ?_
  subst hv
  rw [hR] at hl hB he
  have hI := ints_of_blk hB (by omega)
  rw [hl] at hI he
  exact ⟨b, he, hI, hk⟩
set_option maxRecDepth 100000 in
set_option maxHeartbeats 4000000 in
theorem one_bad (a : Option Addr) (n cap : Nat) (next : List (List Int)) (st : Int) (w : World) (h : Rows w a n next) (hn : n ≤ 25) (ht : total next ≤ 200) (hc : ¬ checkB next = true) :
    Calls Try.prog 33 #[.slice a n cap, .int .i64 st] w fun e w' => e = .returned (.bool true) ∧ Keeps Non w w' := by
  have HX := hide h
  have HSm := hide (row_small ht)
  have HCp := hide (y_copied a n cap next w h (by omega) (fun i => by have := row_small ht i; omega))
  have hwr : wrongE next [st] = 70 := by unfold wrongE; rw [if_neg hc]
  have HWr := hide hwr
  have HNc := hide hc
  have HTt := hide ht
  have hck : checkE next = 70 := if_neg hc
  have HCk := hide hck
  have hcf : checkB next = false := by simpa using hc
  have HCf := hide hcf
  clear h ht hc hwr hck hcf
  go_enter Try.func33, Try.ntmps33
  go_wp2_with fail
  refine HCp.out.mono ?_
  rintro e w1 ⟨b, c, rfl, hR, hk⟩
  have HR := hide hR
  have HK := hide hk
  clear hR hk HCp
  have C1 := hide (from_no b n c next st 70 w1 HR.out HWr.out (by omega))
  go_wp2_with fail
  refine C1.out.mono ?_
  rintro e w2 ⟨rfl, hk⟩
  replace HR := hide (HR.out.non hk)
  replace HK := hide (HK.out.then hk)
  clear hk C1
  have C1 := hide (ways_no b n c next st 70 w2 HR.out HWr.out (by omega))
  go_wp2_with fail
  refine C1.out.mono ?_
  rintro e w3 ⟨rfl, hk⟩
  replace HR := hide (HR.out.non hk)
  replace HK := hide (HK.out.then hk)
  clear hk C1
  have C1 := hide (musts_no b n c next st 70 w3 HR.out HWr.out (by omega))
  go_wp2_with fail
  refine C1.out.mono ?_
  rintro e w4 ⟨rfl, hk⟩
  replace HR := hide (HR.out.non hk)
  replace HK := hide (HK.out.then hk)
  clear hk C1
  have C1 := hide (back_no b n c next w4 HR.out HNc.out)
  go_wp2_with fail
  refine C1.out.mono ?_
  rintro e w5 ⟨rfl, hk⟩
  replace HR := hide (HR.out.non hk)
  replace HK := hide (HK.out.then hk)
  clear hk C1
  have C1 := hide (rings_no b n c next w5 HR.out HNc.out)
  go_wp2_with fail
  refine C1.out.mono ?_
  rintro e w6 ⟨rfl, hk⟩
  replace HR := hide (HR.out.non hk)
  replace HK := hide (HK.out.then hk)
  clear hk C1
  have C1 := hide (lists_l b n c next a n cap next w6 HR.out (HX.out.non HK.out))
  rw [decide_eq_true rfl] at C1
  go_wp2_with fail
  refine C1.out.mono ?_
  rintro e w7 ⟨rfl, hk⟩
  replace HR := hide (HR.out.non hk)
  replace HK := hide (HK.out.then hk)
  clear hk C1
  have C1 := hide (refcheck_l a n cap next w7 (HX.out.non HK.out) hn HTt.out)
  rw [HCf.out] at C1
  go_wp2_with fail
  refine C1.out.mono ?_
  rintro e w8 ⟨rfl, hk⟩
  replace HR := hide (HR.out.non hk)
  replace HK := hide (HK.out.then hk)
  clear hk C1
  have C1 := hide (check_l b n c next w8 HR.out)
  rw [HCk.out] at C1
  go_wp2_with fail
  refine C1.out.mono ?_
  rintro e w9 ⟨rfl, hk⟩
  replace HK := hide (HK.out.then hk)
  clear hk C1
  go_wp2_with fail
  go_ret
  exact ⟨rfl, HK.out⟩
set_option maxRecDepth 100000 in
set_option maxHeartbeats 8000000 in
theorem one_out (a : Option Addr) (n cap : Nat) (next : List (List Int)) (st : Int) (w : World) (h : Rows w a n next) (hn : n ≤ 25) (ht : total next ≤ 200) (hc : checkB next = true) (hs : ¬ (0 ≤ st ∧ st < (n : Int))) :
    Calls Try.prog 33 #[.slice a n cap, .int .i64 st] w fun e w' => e = .returned (.bool true) ∧ Keeps Non w w' := by
  have HX := hide h
  have HCp := hide (y_copied a n cap next w h (by omega) (fun i => by have := row_small ht i; omega))
  have hlen := h.len
  have hwr : wrongE next [st] = 2 := by
    unfold wrongE
    rw [if_pos hc, if_pos]
    simp only [List.any_cons, List.any_nil, Bool.or_false]
    rw [← Bool.not_eq_false, badB_no, hlen]
    exact hs
  have HWr := hide hwr
  have HC := hide hc
  have HTt := hide ht
  have hck : checkE next = 0 := if_pos hc
  have HCk := hide hck
  obtain ⟨Bk, hBk⟩ : ∃ B, backL next n = B := ⟨_, rfl⟩
  obtain ⟨Rg, hRg⟩ : ∃ B, ringsL next n = B := ⟨_, rfl⟩
  have hbl := backL_length next n
  have hrl := ringsL_length next n
  rw [hBk] at hbl
  rw [hRg] at hrl
  have HBk := hide hBk
  have HRg := hide hRg
  have HBl := hide hbl
  have HRl := hide hrl
  have HS := hide (row_small ht)
  have hcase : (st < 0 ∧ decide (st < 0) = true) ∨ (¬ st < 0 ∧ decide (st < 0) = false ∧ (n : Int) ≤ st) := by
    by_cases h1 : st < 0
    · exact .inl ⟨h1, decide_eq_true h1⟩
    · exact .inr ⟨h1, decide_eq_false h1, by omega⟩
  clear h ht hc hwr hck hlen hBk hRg hbl hrl hs
  go_enter Try.func33, Try.ntmps33
  go_wp2_with fail
  refine HCp.out.mono ?_
  rintro e w1 ⟨b, c, rfl, hR, hk⟩
  have HR := hide hR
  have HK := hide hk
  clear hR hk HCp
  have C1 := hide (from_no b n c next st 2 w1 HR.out HWr.out (by omega))
  go_wp2_with fail
  refine C1.out.mono ?_
  rintro e w2 ⟨rfl, hk⟩
  replace HR := hide (HR.out.non hk)
  replace HK := hide (HK.out.then hk)
  clear hk C1
  have C1 := hide (ways_no b n c next st 2 w2 HR.out HWr.out (by omega))
  go_wp2_with fail
  refine C1.out.mono ?_
  rintro e w3 ⟨rfl, hk⟩
  replace HR := hide (HR.out.non hk)
  replace HK := hide (HK.out.then hk)
  clear hk C1
  have C1 := hide (musts_no b n c next st 2 w3 HR.out HWr.out (by omega))
  go_wp2_with fail
  refine C1.out.mono ?_
  rintro e w4 ⟨rfl, hk⟩
  replace HR := hide (HR.out.non hk)
  replace HK := hide (HK.out.then hk)
  clear hk C1
  have C1 := hide (y_back b n c next Bk w4 HR.out HC.out HBk.out (by omega))
  go_wp2_with fail
  refine C1.out.mono ?_
  rintro e w5 ⟨b5, rfl, hI, hk⟩
  have HB5 := hide hI
  replace HR := hide (HR.out.non hk)
  replace HK := hide (HK.out.then hk)
  clear hk C1 hI
  have C1 := hide (y_rings b n c next Rg w5 HR.out HC.out HRg.out)
  go_wp2_with fail
  refine C1.out.mono ?_
  rintro e w6 ⟨b6, rfl, hI, hk⟩
  have HI6 := hide hI
  replace HR := hide (HR.out.non hk)
  replace HB5 := hide (HB5.out.non hk)
  replace HK := hide (HK.out.then hk)
  clear hk C1 hI
  have C1 := hide (lists_l b n c next a n cap next w6 HR.out (HX.out.non HK.out))
  rw [decide_eq_true rfl] at C1
  go_wp2_with fail
  refine C1.out.mono ?_
  rintro e w7 ⟨rfl, hk⟩
  replace HR := hide (HR.out.non hk)
  replace HB5 := hide (HB5.out.non hk)
  replace HI6 := hide (HI6.out.non hk)
  replace HK := hide (HK.out.then hk)
  clear hk C1
  have C1 := hide (refcheck_l a n cap next w7 (HX.out.non HK.out) hn HTt.out)
  rw [HC.out] at C1
  go_wp2_with fail
  refine C1.out.mono ?_
  rintro e w8 ⟨rfl, hk⟩
  replace HR := hide (HR.out.non hk)
  replace HB5 := hide (HB5.out.non hk)
  replace HI6 := hide (HI6.out.non hk)
  replace HK := hide (HK.out.then hk)
  clear hk C1
  have C1 := hide (check_l b n c next w8 HR.out)
  rw [HCk.out] at C1
  go_wp2_with fail
  refine C1.out.mono ?_
  rintro e w9 ⟨rfl, hk⟩
  replace HB5 := hide (HB5.out.non hk)
  replace HI6 := hide (HI6.out.non hk)
  replace HK := hide (HK.out.then hk)
  clear hk C1
  have C1 := hide (refback_l a n cap next w9 (HX.out.non HK.out) HC.out hn)
  rw [HBk.out] at C1
  go_wp2_with fail
  refine C1.out.mono ?_
  rintro e y1 ⟨v, rfl, a1, c1, rfl, hR1, hk⟩
  rw [HBl.out] at hR1 ⊢
  have C2 := hide (lists_l (some ⟨b5, 0, none⟩) n n Bk a1 n c1 Bk y1 (HB5.out.non hk) hR1)
  rw [decide_eq_true rfl] at C2
  replace HI6 := hide (HI6.out.non hk)
  replace HK := hide (HK.out.then hk)
  clear hk C1 hR1
  go_wp2_with fail
  refine C2.out.mono ?_
  rintro e y2 ⟨rfl, hk⟩
  replace HI6 := hide (HI6.out.non hk)
  replace HK := hide (HK.out.then hk)
  clear hk C2
  have C1 := hide (refrings_l a n cap next y2 (HX.out.non HK.out) HC.out hn (fun i => by have := HS.out i; omega))
  rw [HRg.out] at C1
  go_wp2_with fail
  refine C1.out.mono ?_
  rintro e y3 ⟨v, rfl, a3, c3, rfl, hI3, hk⟩
  rw [HRl.out] at hI3 ⊢
  have C2 := hide (equal_any (some ⟨b6, 0, none⟩) n n Rg a3 n c3 Rg y3 (HI6.out.non hk) hI3)
  rw [decide_eq_true rfl] at C2
  replace HK := hide (HK.out.then hk)
  clear hk C1 hI3
  go_wp2_with fail
  refine C2.out.mono ?_
  rintro e y4 ⟨rfl, hk⟩
  replace HK := hide (HK.out.then hk)
  clear hk C2
  rcases hcase with ⟨g1, g2⟩ | ⟨g1, g2, g3⟩
  all_goals
    go_wp2_with fail
    go_ret
    exact ⟨rfl, HK.out⟩
set_option maxRecDepth 100000 in
set_option maxHeartbeats 8000000 in
theorem one_in (a : Option Addr) (n cap : Nat) (next : List (List Int)) (st : Nat) (w : World) (h : Rows w a n next) (hn : n ≤ 25) (ht : total next ≤ 200) (hc : checkB next = true) (hs : st < n) :
    Calls Try.prog 33 #[.slice a n cap, .int .i64 (st : Int)] w fun e w' => e = .returned (.bool true) ∧ Keeps Non w w' := by
  have HX := hide h
  have HCp := hide (y_copied a n cap next w h (by omega) (fun i => by have := row_small ht i; omega))
  have hlen := h.len
  have HC := hide hc
  have HTt := hide ht
  have hck : checkE next = 0 := if_pos hc
  have HCk := hide hck
  obtain ⟨Bk, hBk⟩ : ∃ B, backL next n = B := ⟨_, rfl⟩
  obtain ⟨Rg, hRg⟩ : ∃ B, ringsL next n = B := ⟨_, rfl⟩
  obtain ⟨A, hA⟩ : ∃ B, fromL next n (st : Int) = B := ⟨_, rfl⟩
  obtain ⟨W, hW⟩ : ∃ B, waysL next n (st : Int) = B := ⟨_, rfl⟩
  obtain ⟨M, hM⟩ : ∃ B, mustsL next n (st : Int) = B := ⟨_, rfl⟩
  have hbl := backL_length next n
  have hrl := ringsL_length next n
  have hml : (mustsL next n (st : Int)).length = n := mustTo_length _ _ _ _
  have hwl : (waysL next n (st : Int)).length = n := goW_length _ _
  have hal : (fromL next n (st : Int)).length ≤ n := by
    have := found_len (-1) hc (l := [(st : Int)]) (fun x hx => by rw [List.mem_singleton.1 hx, hlen]; omega)
    rw [hlen] at this
    unfold fromL
    rw [List.length_map]
    exact this
  rw [hBk] at hbl
  rw [hRg] at hrl
  rw [hM] at hml
  rw [hW] at hwl
  rw [hA] at hal
  obtain ⟨L, hL⟩ : ∃ L, A.length = L := ⟨_, rfl⟩
  rw [hL] at hal
  have HBk := hide hBk
  have HRg := hide hRg
  have HBl := hide hbl
  have HRl := hide hrl
  have HA := hide hA
  have HW := hide hW
  have HM := hide hM
  have HMl := hide hml
  have HWl := hide hwl
  have HL := hide hL
  have HS := hide (row_small ht)
  have s0 : (0 : Int) ≤ (st : Int) := by omega
  have s1 : (st : Int) < (n : Int) := by omega
  have s2 : ¬ (st : Int) < 0 := by omega
  have s3 : ¬ (n : Int) ≤ (st : Int) := by omega
  clear h ht hc hck hlen hBk hRg hbl hrl hA hW hM hml hwl hL
  go_enter Try.func33, Try.ntmps33
  go_wp2_with fail
  refine HCp.out.mono ?_
  rintro e w1 ⟨b, c, rfl, hR, hk⟩
  have HR := hide hR
  have HK := hide hk
  clear hR hk HCp
  have C1 := hide (y_from b n c next st A L w1 HR.out HC.out ⟨s0, s1⟩ HA.out HL.out (by omega))
  go_wp2_with fail
  refine C1.out.mono ?_
  rintro e w2 ⟨a2, c2, rfl, hI, hk⟩
  have HI2 := hide hI
  replace HR := hide (HR.out.non hk)
  replace HK := hide (HK.out.then hk)
  clear hk C1 hI
  have C1 := hide (y_ways b n c next st W w2 HR.out HC.out ⟨s0, s1⟩ HW.out)
  go_wp2_with fail
  refine C1.out.mono ?_
  rintro e w3 ⟨b3, rfl, hI, hk⟩
  have HI3 := hide hI
  replace HR := hide (HR.out.non hk)
  replace HI2 := hide (HI2.out.non hk)
  replace HK := hide (HK.out.then hk)
  clear hk C1 hI
  have C1 := hide (y_musts b n c next st M w3 HR.out HC.out ⟨s0, s1⟩ HM.out (by omega))
  go_wp2_with fail
  refine C1.out.mono ?_
  rintro e w4 ⟨b4, rfl, hI, hk⟩
  have HR4 := hide hI
  replace HR := hide (HR.out.non hk)
  replace HI2 := hide (HI2.out.non hk)
  replace HI3 := hide (HI3.out.non hk)
  replace HK := hide (HK.out.then hk)
  clear hk C1 hI
  have C1 := hide (y_back b n c next Bk w4 HR.out HC.out HBk.out (by omega))
  go_wp2_with fail
  refine C1.out.mono ?_
  rintro e w5 ⟨b5, rfl, hI, hk⟩
  have HB5 := hide hI
  replace HR := hide (HR.out.non hk)
  replace HI2 := hide (HI2.out.non hk)
  replace HI3 := hide (HI3.out.non hk)
  replace HR4 := hide (HR4.out.non hk)
  replace HK := hide (HK.out.then hk)
  clear hk C1 hI
  have C1 := hide (y_rings b n c next Rg w5 HR.out HC.out HRg.out)
  go_wp2_with fail
  refine C1.out.mono ?_
  rintro e w6 ⟨b6, rfl, hI, hk⟩
  have HI6 := hide hI
  replace HR := hide (HR.out.non hk)
  replace HI2 := hide (HI2.out.non hk)
  replace HI3 := hide (HI3.out.non hk)
  replace HR4 := hide (HR4.out.non hk)
  replace HB5 := hide (HB5.out.non hk)
  replace HK := hide (HK.out.then hk)
  clear hk C1 hI
  have C1 := hide (lists_l b n c next a n cap next w6 HR.out (HX.out.non HK.out))
  rw [decide_eq_true rfl] at C1
  go_wp2_with fail
  refine C1.out.mono ?_
  rintro e w7 ⟨rfl, hk⟩
  replace HR := hide (HR.out.non hk)
  replace HI2 := hide (HI2.out.non hk)
  replace HI3 := hide (HI3.out.non hk)
  replace HR4 := hide (HR4.out.non hk)
  replace HB5 := hide (HB5.out.non hk)
  replace HI6 := hide (HI6.out.non hk)
  replace HK := hide (HK.out.then hk)
  clear hk C1
  have C1 := hide (refcheck_l a n cap next w7 (HX.out.non HK.out) hn HTt.out)
  rw [HC.out] at C1
  go_wp2_with fail
  refine C1.out.mono ?_
  rintro e w8 ⟨rfl, hk⟩
  replace HR := hide (HR.out.non hk)
  replace HI2 := hide (HI2.out.non hk)
  replace HI3 := hide (HI3.out.non hk)
  replace HR4 := hide (HR4.out.non hk)
  replace HB5 := hide (HB5.out.non hk)
  replace HI6 := hide (HI6.out.non hk)
  replace HK := hide (HK.out.then hk)
  clear hk C1
  have C1 := hide (check_l b n c next w8 HR.out)
  rw [HCk.out] at C1
  go_wp2_with fail
  refine C1.out.mono ?_
  rintro e w9 ⟨rfl, hk⟩
  replace HI2 := hide (HI2.out.non hk)
  replace HI3 := hide (HI3.out.non hk)
  replace HR4 := hide (HR4.out.non hk)
  replace HB5 := hide (HB5.out.non hk)
  replace HI6 := hide (HI6.out.non hk)
  replace HK := hide (HK.out.then hk)
  clear hk C1 HR
  have C1 := hide (refback_l a n cap next w9 (HX.out.non HK.out) HC.out hn)
  rw [HBk.out] at C1
  go_wp2_with fail
  refine C1.out.mono ?_
  rintro e y1 ⟨v, rfl, a1, c1, rfl, hR1, hk⟩
  rw [HBl.out] at hR1 ⊢
  have C2 := hide (lists_l (some ⟨b5, 0, none⟩) n n Bk a1 n c1 Bk y1 (HB5.out.non hk) hR1)
  rw [decide_eq_true rfl] at C2
  replace HI2 := hide (HI2.out.non hk)
  replace HI3 := hide (HI3.out.non hk)
  replace HR4 := hide (HR4.out.non hk)
  replace HI6 := hide (HI6.out.non hk)
  replace HK := hide (HK.out.then hk)
  clear hk C1 hR1 HB5
  go_wp2_with fail
  refine C2.out.mono ?_
  rintro e y2 ⟨rfl, hk⟩
  replace HI2 := hide (HI2.out.non hk)
  replace HI3 := hide (HI3.out.non hk)
  replace HR4 := hide (HR4.out.non hk)
  replace HI6 := hide (HI6.out.non hk)
  replace HK := hide (HK.out.then hk)
  clear hk C2
  have C1 := hide (refrings_l a n cap next y2 (HX.out.non HK.out) HC.out hn (fun i => by have := HS.out i; omega))
  rw [HRg.out] at C1
  go_wp2_with fail
  refine C1.out.mono ?_
  rintro e y3 ⟨v, rfl, a3, c3, rfl, hI3, hk⟩
  rw [HRl.out] at hI3 ⊢
  have C2 := hide (equal_any (some ⟨b6, 0, none⟩) n n Rg a3 n c3 Rg y3 (HI6.out.non hk) hI3)
  rw [decide_eq_true rfl] at C2
  replace HI2 := hide (HI2.out.non hk)
  replace HI3 := hide (HI3.out.non hk)
  replace HR4 := hide (HR4.out.non hk)
  replace HK := hide (HK.out.then hk)
  clear hk C1 hI3 HI6
  go_wp2_with fail
  refine C2.out.mono ?_
  rintro e y4 ⟨rfl, hk⟩
  replace HI2 := hide (HI2.out.non hk)
  replace HI3 := hide (HI3.out.non hk)
  replace HR4 := hide (HR4.out.non hk)
  replace HK := hide (HK.out.then hk)
  clear hk C2
  have C1 := hide (reffrom_l a n cap next st y4 (HX.out.non HK.out) HC.out ⟨s0, s1⟩ hn HTt.out)
  rw [HA.out] at C1
  go_wp2_with fail
  refine C1.out.mono ?_
  rintro e y5 ⟨v, rfl, hO⟩
  obtain ⟨a5, c5, hv5, hI5⟩ := ints_of_owns hO.1 (by rw [HL.out]; omega)
  subst hv5
  have hk := hO.2
  rw [HL.out] at hI5 ⊢
  have C2 := hide (equal_any a2 L c2 A a5 L c5 A y5 (HI2.out.non hk) hI5)
  rw [decide_eq_true rfl] at C2
  replace HI3 := hide (HI3.out.non hk)
  replace HR4 := hide (HR4.out.non hk)
  replace HK := hide (HK.out.then hk)
  clear hk C1 hI5 HI2 hO
  go_wp2_with fail
  refine C2.out.mono ?_
  rintro e y6 ⟨rfl, hk⟩
  replace HI3 := hide (HI3.out.non hk)
  replace HR4 := hide (HR4.out.non hk)
  replace HK := hide (HK.out.then hk)
  clear hk C2
  have C1 := hide (refways_l a n cap next st y6 (HX.out.non HK.out) HC.out hs hn (fun i => by have := HS.out i; omega))
  rw [HW.out] at C1
  go_wp2_with fail
  refine C1.out.mono ?_
  rintro e y7 ⟨v, rfl, b7, rfl, _, hB7, hk⟩
  have hI7 := ints_of_blk hB7 (by rw [HWl.out]; omega)
  rw [HWl.out] at hI7 ⊢
  have C2 := hide (equal_any (some ⟨b3, 0, none⟩) n n W (some ⟨b7, 0, none⟩) n n W y7 (HI3.out.non hk) hI7)
  rw [decide_eq_true rfl] at C2
  replace HR4 := hide (HR4.out.non hk)
  replace HK := hide (HK.out.then hk)
  clear hk C1 hI7 HI3 hB7
  go_wp2_with fail
  refine C2.out.mono ?_
  rintro e y8 ⟨rfl, hk⟩
  replace HR4 := hide (HR4.out.non hk)
  replace HK := hide (HK.out.then hk)
  clear hk C2
  have C1 := hide (refmusts_l a n cap next st y8 (HX.out.non HK.out) HC.out hs hn HS.out)
  rw [HM.out] at C1
  go_wp2_with fail
  refine C1.out.mono ?_
  rintro e y9 ⟨v, rfl, B9, S9, rfl, _, hR9, hk⟩
  have hRr := hR9.rows (by rw [HMl.out]; omega) (fun i => by
    obtain ⟨b8, o8, _, _, hc8⟩ := HR4.out.at (by omega)
    by_cases hi : i < n
    · obtain ⟨a8, c8, _, hI8⟩ := hc8 i hi
      exact hI8.big
    · rw [List.getD_eq_getElem?_getD, List.getElem?_eq_none (by rw [HMl.out]; omega)]
      simp)
  rw [HMl.out] at hRr ⊢
  have C2 := hide (lists_l (some ⟨b4, 0, none⟩) n n M (some ⟨B9, 0, none⟩) n n M y9 (HR4.out.non hk) hRr)
  rw [decide_eq_true rfl] at C2
  replace HK := hide (HK.out.then hk)
  clear hk C1 hRr HR4 hR9
  go_wp2_with fail
  refine C2.out.mono ?_
  rintro e z1 ⟨rfl, hk⟩
  replace HK := hide (HK.out.then hk)
  clear hk C2
  go_wp2_with fail
  go_ret
  exact ⟨rfl, HK.out⟩
theorem one_l (a : Option Addr) (n cap : Nat) (next : List (List Int)) (st : Int) (w : World) (h : Rows w a n next) (hn : n ≤ 25) (ht : total next ≤ 200) :
    Calls Try.prog 33 #[.slice a n cap, .int .i64 st] w fun e w' => e = .returned (.bool true) ∧ Keeps Non w w' := by
  by_cases hc : checkB next = true
  · by_cases hs : 0 ≤ st ∧ st < (n : Int)
    · obtain ⟨s, rfl⟩ := Int.eq_ofNat_of_zero_le hs.1
      exact one_in a n cap next s w h hn ht hc (by omega)
    · exact one_out a n cap next st w h hn ht hc hs
  · exact one_bad a n cap next st w h hn ht hc
end
end Go.Proofs.Ythpdflpkkiabhaa
