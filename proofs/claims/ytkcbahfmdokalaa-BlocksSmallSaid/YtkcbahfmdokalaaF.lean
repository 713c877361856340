/-
  Walks over layer 6: numbered, over words of 66 integers. No condition.
-/
import Derived.Test.YtkcbahfmdokalaaA
import Derived.WideKeyPair
import Derived.Deep.WholeRow
namespace Go.Proofs.Ytkcbahfmdokalaa
open Go.RowKit Go.Maps
attribute [local go_sem] onto_cell onto_frozen
attribute [-go_sem] loadCellsFrom
/-- 66 integers that fit. -/
abbrev Wd := { l : List Int // l.length = 66 ∧ ∀ x ∈ l, (Lit.int .i64 x).wf = true }
def wL (x : Wd) : List Value := x.1.map (Value.int .i64)
/-- A word's value, whatever the walk may know of it. -/
def wA (x : Wd) : Array Value := (wL x).toArray
def kwd (x : Wd) : Lit := .string (keyBytes (x.1.map (Lit.int .i64)))
theorem wL_length (x : Wd) : (wL x).length = 66 := by simp [wL, x.2.1]
theorem wA_size (x : Wd) : (wA x).size = 66 := by simp [wA, wL_length]
theorem alike_ints : ∀ (l m : List Int), l.length = m.length → Alike (l.map (Lit.int .i64)) (m.map (Lit.int .i64))
  | [], [], _ => trivial
  | [], _ :: _, h => by cases h
  | _ :: _, [], h => by cases h
  | x :: l, y :: m, h => ⟨rfl, alike_ints l m (by simpa using h)⟩
theorem kwd_inj (x y : Wd) (h : kwd x = kwd y) : x = y := by
  unfold kwd at h
  simp only [Lit.string.injEq] at h
  have e := keyBytes_inj (l := x.1.map (Lit.int .i64)) (l' := y.1.map (Lit.int .i64)) (alike_ints _ _ (by rw [x.2.1, y.2.1])) (by
    intro a ha
    obtain ⟨b, hb, rfl⟩ := List.mem_map.1 ha
    exact x.2.2 b hb) (by
    intro a ha
    obtain ⟨b, hb, rfl⟩ := List.mem_map.1 ha
    exact y.2.2 b hb) h
  refine Subtype.ext ?_
  have h2 := congrArg (List.map fun l => match l with | Lit.int _ z => z | _ => 0) e
  simpa [List.map_map, Function.comp_def] using h2
theorem arr93 : Go.WideMaps.ArrKey Try.prog 93 3 66 := ⟨Try.underlying93, by kernel_rfl, by kernel_rfl, by kernel_rfl⟩
theorem law93 : Keyed Try.prog 93 := Keyed.of_law arr93.law
theorem types_some93 : ∃ m, Try.prog.types.size = m + 1 := ⟨Try.prog.types.size - 1, by kernel_rfl⟩
theorem info93 : (Try.prog.info? 93).map (·.size) = some 66 := by kernel_rfl
theorem zero93 (w : World) : (zeroValue 93).run Try.prog w = .ok (.agg (Array.replicate 66 (.int .i64 0))) w :=
  (zero_of_info (P := Try.prog) (t := 93) (v := .agg (Array.replicate 66 (.int .i64 0))) (n := 66) (by kernel_rfl)).1 w
theorem mapM_each {α β : Type} (f : α → Option β) (g : α → β) : ∀ (L : List α), (∀ x ∈ L, f x = some (g x)) → L.mapM f = some (L.map g)
  | [], _ => rfl
  | x :: r, h => by
    rw [List.mapM_cons, h x (by simp), mapM_each f g r (fun y hy => h y (by simp [hy]))]
    rfl
theorem key93 (x : Wd) : keyOf Try.prog 93 (.agg (wA x)) = some (kwd x) := by
  have hkt := arr93.keyType types_some93
  obtain ⟨m, hm⟩ := types_some93
  unfold keyOf
  simp only [arr93.hu]
  rw [if_pos (by simp [hkt, Value.formed, arr93.hu, arr93.size, wA_size]), hm]
  unfold Program.keyLits
  simp only [arr93.hu, Value.cells]
  have hl : (List.range 66).mapM (fun i => Try.prog.keyLits (m + 1) 3 (((wA x).toList.drop (i * Try.prog.cellsOf 3)).take (Try.prog.cellsOf 3))) = some ((List.range 66).map fun i => [Lit.int .i64 (x.1.getD i 0)]) := by
    refine mapM_each _ _ _ fun i hi => ?_
    have hi2 : i < x.1.length := by rw [x.2.1]; exact List.mem_range.1 hi
    have e : ((wA x).toList.drop (i * 1)).take 1 = [.int .i64 (x.1.getD i 0)] := by
      rw [Nat.mul_one, List.drop_eq_getElem_cons (by simp [wA, wL]; omega)]
      simp [wA, wL, List.getD_eq_getElem?_getD, hi2]
    have hwf : (Lit.int .i64 (x.1.getD i 0)).wf = true := by
      refine x.2.2 _ ?_
      rw [List.getD_eq_getElem?_getD, List.getElem?_eq_getElem hi2]
      exact List.getElem_mem hi2
    rw [arr93.one, e]
    unfold Program.keyLits
    simp only [Try.underlying3]
    rw [if_pos ⟨trivial, hwf⟩]
  rw [if_pos (by rw [arr93.size]; simpa using wA_size x), hl]
  have hfl : ((List.range 66).map fun i => [Lit.int .i64 (x.1.getD i 0)]).flatten = x.1.map (Lit.int .i64) := by
    have h2 : ((List.range 66).map fun i => [Lit.int .i64 (x.1.getD i 0)]).flatten = (List.range 66).map fun i => Lit.int .i64 (x.1.getD i 0) := by
      generalize List.range 66 = L
      induction L with
      | nil => rfl
      | cons a r ih => rw [List.map_cons, List.flatten_cons, ih]; rfl
    rw [h2]
    apply List.ext_getElem?
    intro i
    rw [List.getElem?_map, List.getElem?_map]
    by_cases h : i < 66
    · rw [List.getElem?_range h, List.getElem?_eq_getElem (by rw [x.2.1]; exact h)]
      simp [List.getD_eq_getElem?_getD, List.getElem?_eq_getElem (show i < x.1.length by rw [x.2.1]; exact h)]
    · rw [List.getElem?_eq_none (by simp; omega), List.getElem?_eq_none (by rw [x.2.1]; omega)]
      rfl
  rw [Option.map_some, hfl]
  rfl
def wd0 : Wd := ⟨List.replicate 66 0, by simp, by
  intro x hx
  rw [(List.mem_replicate.1 hx).2]
  decide⟩
/-- Words that lie in a row. -/
structure WdsIn (w : World) (a : Option Addr) (n : Nat) (xs : List Wd) : Prop where
  len : xs.length = n
  big : n ≤ 17592186044416
  cell : n = 0 ∨ ∃ b off, a = some ⟨b, off, none⟩ ∧ b < w.heap.size ∧ ∀ i, i < n → ∀ j v, (wL (xs.getD i wd0))[j]? = some v → w.cell? ⟨b, off + i * 66 + j, none⟩ = some v
theorem WdsIn.at {w : World} {a : Option Addr} {n : Nat} {xs : List Wd} (h : WdsIn w a n xs) (hn : 0 < n) : ∃ b off, a = some ⟨b, off, none⟩ ∧ b < w.heap.size ∧ ∀ i, i < n → ∀ j v, (wL (xs.getD i wd0))[j]? = some v → w.cell? ⟨b, off + i * 66 + j, none⟩ = some v :=
  h.cell.resolve_left (by omega)
theorem loads93 (w : World) (b o : Nat) (x : Wd) (h : ∀ j v, (wL x)[j]? = some v → w.cell? ⟨b, o + j, none⟩ = some v) : (loadCellsFrom ⟨b, o, none⟩ 0 66 #[]).run Try.prog w = .ok (wA x) w := by
  have := run_loadCells_list (P := Try.prog) w ⟨b, o, none⟩ (wL x) (fun j v hv => by
    have hadd : (⟨b, o, none⟩ : Addr).add j = ⟨b, o + j, none⟩ := by unfold Addr.add; split <;> simp_all
    rw [hadd]
    exact h j v hv)
  rw [wL_length] at this
  exact this
theorem wA_one (x : Wd) : (wA x).all (·.oneCell') = true := by
  rw [Array.all_eq_true_iff_forall_mem]
  intro v hv
  simp only [wA, wL, List.mem_toArray, List.mem_map] at hv
  obtain ⟨c, _, rfl⟩ := hv
  rfl
set_option maxRecDepth 100000 in
set_option maxHeartbeats 4000000 in
theorem numbered_word (a : Option Addr) (n cap : Nat) (xs : List Wd) (w : World) (hx : WdsIn w a n xs) (hn : n ≤ 2000) :
    Calls Try.prog 71 #[.slice a n cap] w fun e w' => ∃ b, e = .returned (.slice (some ⟨b, 0, none⟩) n n) ∧ w.heap.size ≤ b ∧ Blk w' b ((numb [] xs).map (Value.int .i64)) 3 ∧ Keeps Non w w' := by
  have HX := hide hx
  have HWk : Hid (∀ x : Wd, WideAt.IsKeyLit (kwd x)) := fun x => ⟨⟩
  clear hx
  have hmm := @run_makeMap Try.prog
  have hms := make22 (w.alloc (.map #[] 0)) n (by omega)
  obtain ⟨B, hB⟩ : ∃ B, w.heap.size = B := ⟨_, rfl⟩
  have HBs := hide hB
  have HM0 : Hid (((w.alloc (.map #[] 0)).alloc (.cells (Array.replicate n (.int .i64 0)) 3)).ownsMap Try.prog 93 (plainElem (H := Unit) Try.prog 3) B 0 (.map [])) := by
    rw [← hB]
    exact (World.ownsMap_made _ _ _ _).alloc _
  have HR0 : Hid (Blk ((w.alloc (.map #[] 0)).alloc (.cells (Array.replicate n (.int .i64 0)) 3)) (B + 1) (rowL [] n) 3) := by
    have e : rowL [] n = List.replicate n (.int .i64 0) := by simp [rowL]
    rw [e, ← List.toArray_replicate]
    exact Blk.newAt (w.alloc (.map #[] 0)) (List.replicate n (.int .i64 0)) 3 (by simp [hB])
  have HK0 := hide (((Keeps.refl Non w).alloc (.map #[] 0)).alloc (.cells (Array.replicate n (.int .i64 0)) 3))
  clear hB
  go_enter Try.func71, Try.ntmps71
  go_wp2_with fail
  rw [HBs.out]
  obtain ⟨W, hW⟩ : ∃ W, (w.alloc (.map #[] 0)).alloc (.cells (Array.replicate n (.int .i64 0)) 3) = W := ⟨_, rfl⟩
  rw [hW] at HM0 HR0 HK0 ⊢
  clear hW hms hmm
  go_loopw [5, 16] (fun c i wr => ∃ (k : Nat) (D : DataW Unit) (met : List Wd) (done : List Int), k ≤ n ∧ i = .int .i64 k ∧ c = .int .i64 met.length ∧ met.length ≤ k ∧ Hid (done.length = k) ∧ Hid (numb [] xs = done ++ numb met (xs.drop k)) ∧ Hid (Says kwd D met) ∧ Hid (wr.ownsMap Try.prog 93 (plainElem Try.prog 3) B k D) ∧ Hid (Blk wr (B + 1) (rowL done n) 3) ∧ Hid (Keeps Non w wr)) (fun _ i _ => n - (intOf i).toNat)
  case atStart => exact ⟨0, .map [], [], [], by omega, rfl, rfl, by simp, rfl, rfl, says_nil _, HM0.out, HR0.out, HK0.out⟩
  case round =>
    clear HM0 HR0 HK0
    obtain ⟨k, D, met, done, hk, rfl, rfl, hm, HD, HNu, HS, HM, HR, HK⟩ := hrel
    by_cases hlt : k < n
    · obtain ⟨bq, off, rfl, hbq, hcell⟩ := HX.out.at (by omega)
      obtain ⟨x, hx⟩ : ∃ x, xs.getD k wd0 = x := ⟨_, rfl⟩
      have lq : bq < wr.heap.size := Nat.lt_of_lt_of_le hbq HK.out.size
      have cq : (loadCellsFrom ⟨bq, off + k * 66, none⟩ 0 66 #[]).run Try.prog wr = .ok (wA x) wr := by
        refine loads93 wr bq (off + k * 66) x fun j v hv => ?_
        rw [HK.out.cell (p := ⟨bq, off + k * 66 + j, none⟩) hbq (fun x => x)]
        exact hcell k hlt j v (by rw [hx]; exact hv)
      have cz := zero93
      obtain ⟨Z, hZ⟩ : ∃ Z : Array Value, Array.replicate 66 (.int .i64 0) = Z := ⟨_, rfl⟩
      rw [hZ] at cz
      have hZs : Z.size = 66 := by rw [← hZ]; simp
      have hZ0 : ¬ Z = #[] := by
        intro h
        rw [h] at hZs
        simp at hZs
      have cs := run_storeCells_new (P := Try.prog) wr 93 Z (wA x) (by rw [info93, wA_size]) (by rw [hZs, wA_size]) (wA_one x)
      have cl := run_loadCellsFrom_new (P := Try.prog) wr 93 (wA x) 66 (wA_size x)
      have hx0 : ¬ wA x = #[] := by
        intro h
        have := wA_size x
        rw [h] at this
        simp at this
      have hxs := wA_size x
      clear hZ hZs
      have hxl : xs.length = n := HX.out.len
      have hdr : xs.drop k = x :: xs.drop (k + 1) := by
        rw [List.drop_eq_getElem_cons (by omega), ← hx, List.getD_eq_getElem?_getD, List.getElem?_eq_getElem (by omega)]
        rfl
      have hkey : keyOf Try.prog 93 (.agg (wA x)) = some (kwd x) := key93 x
      have hrl := rowL_at done n k (by have := HD.out; omega) hlt
      have lr := HR.out.lt
      have cr : wr.cell? ⟨B + 1, k, none⟩ = some (.int .i64 0) := by rw [HR.out.cell]; exact hrl
      have fr := HR.out.free k none
      have cra : (wr.alloc (.cells (wA x) 93)).cell? ⟨B + 1, k, none⟩ = some (.int .i64 0) := by rw [(HR.out.alloc _).cell]; exact hrl
      have k0 : (0 : Int) ≤ (k : Int) := by omega
      have k1 : (k : Int) < (n : Int) := by omega
      have HDr := hide hdr
      clear hcell hrl hdr hx hxl
      by_cases hin : x ∈ met
      · have hhas : has D (kwd x) = true := by
          have := HS.out.2.1 x
          rw [this]
          simpa using hin
        go_wp2_with (at_lookup; refine wpList_lookup_own_ok_int _ rfl _ _ 98 rfl 93 3 .i64 law93 Try.underlying98 Try.underlying3 (zero3 _) B k D rfl (HM.out.alloc _) _ _ rfl hkey ?_; intro c hat hwc; rw [hhas])
        have hce : c = (met.idxOf x : Int) := by
          have h := HS.out.2.2 x hin (.lit (.int .i64 0))
          rw [hat] at h
          simpa using h
        have HNn : Hid (numb [] xs = (done ++ [c]) ++ numb met (xs.drop (k + 1))) := by
          show _ = _
          rw [HNu.out, HDr.out]
          simp only [numb]
          rw [if_pos hin, hce]
          simp
        have HRn : Hid (Blk ((wr.setCell ⟨B + 1, k, none⟩ (.int .i64 c)).alloc (.cells (wA x) 93)) (B + 1) (rowL (done ++ [c]) n) 3) := by
          have h1 := (HR.out.store k (.int .i64 c)).alloc (.cells (wA x) 93)
          have h2 := rowL_set done n c (by have := HD.out; omega)
          rw [HD.out] at h2
          rw [h2] at h1
          exact h1
        go_roundw
        case rel => exact ⟨k + 1, D, met, done ++ [c], by omega, by go_num, rfl, by omega, by show _ = _; rw [List.length_append, HD.out]; rfl, HNn.out, HS.out, (map_other (g := B + 1) (i := k) (HM.out.mono (Nat.le_succ k)) (by omega) (.int .i64 c)).alloc _, HRn.out, (HK.out.set (b := B + 1) (i := k) (.inr (by have := HBs.out; omega)) (.int .i64 c)).alloc _⟩
        case measure => simp [intOf]; omega
      · have hhas : has D (kwd x) = false := by
          have := HS.out.2.1 x
          rw [this]
          simpa using hin
        have hwm : (Lit.int .i64 (met.length : Int)).wf = true := by
          simp only [Lit.wf, Bool.and_eq_true, decide_eq_true_eq]
          constructor
          · show (-9223372036854775808 : Int) ≤ _
            omega
          · show _ ≤ (9223372036854775807 : Int)
            omega
        go_wp2_with (first | (at_lookup; refine wpList_lookup_own_ok_int _ rfl _ _ 98 rfl 93 3 .i64 law93 Try.underlying98 Try.underlying3 (zero3 _) B k D rfl (HM.out.alloc _) _ _ rfl hkey ?_; intro c hat hwc; rw [hhas]) | (at_mapUpdate; refine wpList_mapUpdate_own _ rfl _ _ _ 98 rfl 93 3 law93 Try.underlying98 _ B k D rfl (HM.out.alloc _) (by unfold maxLen; omega) _ _ _ rfl rfl hkey _ [] (plainElem_int Try.underlying3 hwm) ?_; intro w1 hown1 hgrow1; have HR1 := (HR.out.alloc (.cells (wA x) 93)).of_eq (hgrow1.block (B + 1) (HR.out.alloc _).lt (fun e => by simp at e)); have cr1 : w1.cell? ⟨B + 1, k, none⟩ = some (.int .i64 0) := (World.cell?_of_block (hgrow1.block (B + 1) (HR.out.alloc _).lt (fun e => by simp at e))).trans cra; have fr1 := HR1.free k none; have lr1 := HR1.lt))
        have HNn : Hid (numb [] xs = (done ++ [(met.length : Int)]) ++ numb (met ++ [x]) (xs.drop (k + 1))) := by
          show _ = _
          rw [HNu.out, HDr.out]
          simp only [numb]
          rw [if_neg hin]
          simp
        have HRn : Hid (Blk (w1.setCell ⟨B + 1, k, none⟩ (.int .i64 met.length)) (B + 1) (rowL (done ++ [(met.length : Int)]) n) 3) := by
          have h1 := HR1.store k (.int .i64 met.length)
          have h2 := rowL_set done n (met.length : Int) (by have := HD.out; omega)
          rw [HD.out] at h2
          rw [h2] at h1
          exact h1
        have HSn := hide (says_put kwd_inj HWk.out HS.out hin)
        go_roundw
        case rel => exact ⟨k + 1, D.put (kwd x) (.lit (.int .i64 (met.length : Int))), met ++ [x], done ++ [(met.length : Int)], by omega, by go_num, by simp, by simp; omega, by show _ = _; rw [List.length_append, HD.out]; rfl, HNn.out, HSn.out, map_other hown1 (by omega) _, HRn.out, (keeps_grown (HK.out.alloc _) hgrow1 (fun j hj => .inr (by cases hj; have := HBs.out; omega))).set (.inr (by have := HBs.out; omega)) _⟩
        case measure => simp [intOf]; omega
    · have hkn : k = n := by omega
      subst hkn
      have y9 : ¬ (k : Int) < (k : Int) := by omega
      go_wp2_with fail
      go_ret
      refine ⟨B + 1, rfl, by have := HBs.out; omega, ?_, HK.out⟩
      have e : numb [] xs = done := by
        rw [HNu.out, List.drop_of_length_le (by rw [HX.out.len]; exact Nat.le_refl _)]
        simp [numb]
      have h := HR.out
      unfold rowL at h
      rw [HD.out, Nat.sub_self] at h
      rw [e]
      simpa using h
end Go.Proofs.Ytkcbahfmdokalaa
