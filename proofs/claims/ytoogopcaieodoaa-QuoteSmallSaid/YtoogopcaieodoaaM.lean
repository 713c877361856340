/-
  The walk over ReadBytes. No condition.
-/
import Derived.Test.YtoogopcaieodoaaL
import Derived.WalkMore
import Derived.Scope
import Derived.ControlIn
namespace Go.Proofs.Ytoogopcaieodoaa
open Go.RowKit Go.Shelf
attribute [local go_sem] onto_cell onto_frozen
attribute [local go_sem] Oper.semAt_some
theorem eachF_len (m : Mk) : ∀ (f k : Nat) (l : List UInt8), (eachF m f k l).length ≤ f
  | 0, _, _ => by simp [eachF]
  | _ + 1, _, [] => by simp [eachF]
  | f + 1, k, c :: r => by
    simp only [eachF, List.length_cons]
    split
    · simp
    · have := eachF_len m f (k + (rdB m (c :: r)).2.1.toNat) ((c :: r).drop (rdB m (c :: r)).2.1.toNat)
      omega
theorem eachF_byte (m : Mk) : ∀ (f k : Nat) (l : List UInt8), ∀ x ∈ eachF m f k l, 0 ≤ x.2 ∧ x.2 ≤ 255
  | 0, _, _ => by simp [eachF]
  | _ + 1, _, [] => by simp [eachF]
  | f + 1, k, c :: r => by
    intro x hx
    simp only [eachF, List.mem_cons] at hx
    rcases hx with rfl | hx
    · exact rdB_byte m (c :: r)
    · split at hx
      · simp at hx
      · exact eachF_byte m f _ _ x hx
theorem bytes_cells : ∀ (xs : List (Int × Int)), (∀ x ∈ xs, 0 ≤ x.2 ∧ x.2 ≤ 255) → (xs.map fun x => Value.int .u8 x.2) = Lib.byteCells (xs.map fun x => UInt8.ofNat x.2.toNat)
  | [], _ => rfl
  | x :: r, h => by
    have h0 := h x (List.mem_cons_self ..)
    have h1 : ((UInt8.ofNat x.2.toNat).toNat : Int) = x.2 := by
      rw [UInt8.toNat_ofNat']
      omega
    have ih := bytes_cells r (fun y hy => h y (List.mem_cons_of_mem _ hy))
    simp only [List.map_cons, ih]
    simp only [Lib.byteCells, List.map_cons, h1]
/-- Where the reading has come. -/
def lastAt : List (Int × Int) → Int
  | [] => 0
  | [x] => x.1
  | _ :: y :: r => lastAt (y :: r)
theorem lastAt_snoc (pre : List (Int × Int)) (x : Int × Int) : lastAt (pre ++ [x]) = x.1 := by
  induction pre with
  | nil => rfl
  | cons a r ih =>
    cases r with
    | nil => rfl
    | cons b r => exact ih
/-- Each index is another than the one before it. -/
def Goes (pre : List (Int × Int)) : Prop := ∀ ini x rest, pre = ini ++ x :: rest → x.1 ≠ lastAt ini
theorem goes_snoc {pre : List (Int × Int)} {x : Int × Int} (h : Goes pre) (hx : ¬ x.1 = lastAt pre) : Goes (pre ++ [x]) := by
  intro ini y rest e
  rcases List.eq_nil_or_concat rest with rfl | ⟨r, z, rfl⟩
  · obtain ⟨rfl, e2⟩ := List.append_inj' e rfl
    cases e2
    exact hx
  · rw [List.concat_eq_append] at e
    have e3 : pre ++ [x] = (ini ++ y :: r) ++ [z] := by rw [e]; simp
    obtain ⟨rfl, _⟩ := List.append_inj' e3 rfl
    exact h ini y r rfl
set_option maxRecDepth 100000 in
set_option maxHeartbeats 2000000 in
theorem readBytes_in (m : Mk) (s : ByteArray) (hs : s.size ≤ 1000000) (w : World) :
    CallsIn Fence.wide 5 Try.prog 19 #[.string s, .agg #[.int .u64 m.w0, .int .u64 m.w1, .int .u64 m.w2, .int .u64 m.w3]] w fun e w' => ((∃ xs, eachF m (s.size + 1) 0 s.data.toList = xs ∧ Goes xs ∧ e = .returned (.tuple #[.string ⟨(xs.map fun x => UInt8.ofNat x.2.toNat).toArray⟩, .int .i64 (lastAt xs), .int .i64 0])) ∨
      (∃ ini x, ini ++ [x] <+: eachF m (s.size + 1) 0 s.data.toList ∧ Goes ini ∧ x.1 = lastAt ini ∧ e = .returned (.tuple #[.string ⟨#[]⟩, .int .i64 (lastAt ini), .int .i64 20]))) ∧ Below w.heap.size w w' := by
  obtain ⟨i0, hi, hz0, hz1, hz2⟩ := info_parts Try.Builder_Extra_169.infoByte
  have HE := hide (fun w => each_any m s w)
  refine callsIn_of_wp_marks Try.func19 rfl trivial ?_ rfl
  simp only [Try.ntmps19, List.size_toArray, List.length_cons, List.length_nil, Nat.reduceAdd, Nat.reduceSub, Array.replicate_succ, Array.replicate_zero, List.push_toArray, List.append_toArray, List.nil_append, List.cons_append]
  refine wpIn_wide.2 ?_
  go_wp2
  refine wp_scope_straight ?_
  go_wp2
  refine wp_label ?_
  go_wp2_with (go_at_call 36; refine (HE.out _).mono ?_; rintro e w' ⟨rfl, rfl⟩)
  obtain ⟨b, hb⟩ : ∃ b, w.heap.size = b := ⟨_, rfl⟩
  obtain ⟨W0, hW0⟩ : ∃ W0, (((((w.alloc (.cells #[.int .u64 m.w0, .int .u64 m.w1, .int .u64 m.w2, .int .u64 m.w3] 24)).alloc (.cells #[.slice none 0 0] 33)).alloc (.cells #[.int .i64 0] 3)).alloc (.cells #[.bool false] 4)).alloc (.cells #[.string s] 9)).alloc (.cells #[.int .u64 m.w0, .int .u64 m.w1, .int .u64 m.w2, .int .u64 m.w3] 24) = W0 := ⟨_, rfl⟩
  have sz : W0.heap.size = b + 6 := by
    rw [← hW0, ← hb]
    simp
  have BO : Boxed W0 (b + 1) 33 (.slice none 0 0) := by
    rw [← hW0, ← hb]
    have h := Boxed.new (w.alloc (.cells #[.int .u64 m.w0, .int .u64 m.w1, .int .u64 m.w2, .int .u64 m.w3] 24)) 33 (.slice none 0 0)
    rw [World.size_alloc] at h
    exact (((h.alloc _).alloc _).alloc _).alloc _
  have BA : Boxed W0 (b + 2) 3 (.int .i64 0) := by
    rw [← hW0, ← hb]
    have h := Boxed.new ((w.alloc (.cells #[.int .u64 m.w0, .int .u64 m.w1, .int .u64 m.w2, .int .u64 m.w3] 24)).alloc (.cells #[.slice none 0 0] 33)) 3 (.int .i64 0)
    rw [World.size_alloc, World.size_alloc] at h
    exact ((h.alloc _).alloc _).alloc _
  have BW : Boxed W0 (b + 3) 4 (.bool false) := by
    rw [← hW0, ← hb]
    have h := Boxed.new (((w.alloc (.cells #[.int .u64 m.w0, .int .u64 m.w1, .int .u64 m.w2, .int .u64 m.w3] 24)).alloc (.cells #[.slice none 0 0] 33)).alloc (.cells #[.int .i64 0] 3)) 4 (.bool false)
    rw [World.size_alloc, World.size_alloc, World.size_alloc] at h
    exact (h.alloc _).alloc _
  have BS : Blk W0 (b + 4) [.string s] 9 := by
    rw [← hW0]
    exact (Blk.newAt _ [.string s] 9 (by simp [← hb])).alloc _
  have BM : Blk W0 (b + 5) [.int .u64 m.w0, .int .u64 m.w1, .int .u64 m.w2, .int .u64 m.w3] 24 := by
    rw [← hW0]
    exact Blk.newAt _ [.int .u64 m.w0, .int .u64 m.w1, .int .u64 m.w2, .int .u64 m.w3] 24 (by simp [← hb])
  have hB0 : Below b w W0 := by
    rw [← hW0]
    exact ((((((Below.refl b w).alloc (by omega) _).alloc (by simp; omega) _).alloc (by simp; omega) _).alloc (by simp; omega) _).alloc (by simp; omega) _).alloc (by simp; omega) _
  obtain ⟨xs, hxs⟩ : ∃ xs, eachF m (s.size + 1) 0 s.data.toList = xs := ⟨_, rfl⟩
  have hxl : xs.length ≤ 1000001 := by
    have h := eachF_len m (s.size + 1) 0 s.data.toList
    rw [hxs] at h
    omega
  rw [hW0, hb]
  clear hW0
  refine (wpIn_wide (n := 5)).1 ?_
  refine wpIn_rangeFunc_ownG (F := Fence.wide) rfl (by decide) (gf := 50) (lb := #[.pointer (some ⟨b + 4, 0, none⟩), .pointer (some ⟨b + 5, 0, none⟩)]) rfl trivial (enters_of Try.func50 (by kernel_rfl) rfl)
    (each_stops 4 (by omega) (b + 4) (b + 5) m s hs W0 xs hxs BS BM) Kq.trans (kq_b (by omega) (by omega)) (Below.refl _ _) (fun _ => rfl)
    (fun pre W => ((∃ v, Boxed W (b + 1) 33 v ∧ W.ownsRow b 5 1 v pre.length (pre.map fun x => .int .u8 x.2) ∧ True) ∧ Boxed W (b + 2) 3 (.int .i64 (lastAt pre)) ∧ Boxed W (b + 3) 4 (.bool false) ∧ Goes pre ∧ Boxed W (b + 4) 9 (.string s) ∧ Blk W (b + 5) [.int .u64 m.w0, .int .u64 m.w1, .int .u64 m.w2, .int .u64 m.w3] 24) ∧ Below b w W)
    (fun c pre W => (c = .exit 0 ∧ (∃ ini x, pre = ini ++ [x] ∧ Goes ini ∧ x.1 = lastAt ini ∧ Boxed W (b + 2) 3 (.int .i64 (lastAt ini))) ∧ Boxed W (b + 3) 4 (.bool true)) ∧ Below b w W)
    ?hI ?hIx ?h0
    (fun x => { tmps := #[.string s, .agg #[.int .u64 m.w0, .int .u64 m.w1, .int .u64 m.w2, .int .u64 m.w3], undef, .pointer (some ⟨b, 0, none⟩), .string ⟨#[]⟩, .int .i64 0, .int .i64 0, .pointer (some ⟨b + 1, 0, none⟩), .pointer (some ⟨b + 2, 0, none⟩), .pointer (some ⟨b + 3, 0, none⟩), .int .i64 x.1, .int .u8 x.2, .string s, .agg #[.int .u64 m.w0, .int .u64 m.w1, .int .u64 m.w2, .int .u64 m.w3], .func (.func 50) #[] #[.pointer (some ⟨b + 4, 0, none⟩), .pointer (some ⟨b + 5, 0, none⟩)], .int .i64 x.1, .int .u8 x.2, undef, undef, undef, undef, undef, undef, undef, undef, undef, undef, undef, undef, undef], defers := [] }) ?assign ?body ?done ?stop
  case hI =>
    refine OwnFrom.and (Own.from (fun t A B row hs hg hr => ?_) _) (ownFrom_below (by omega) (by omega))
    obtain ⟨h1, h2, h3, h4, h5, h6⟩ := hs
    exact ⟨holdsRow_own b (b + 1) 33 5 1 (fun pre => pre.length) (fun pre => pre.map fun x => .int .u8 x.2) (fun _ _ => True) t A B row h1 hg hr, boxed_own (b + 2) 3 (fun pre => .int .i64 (lastAt pre)) t A B row h2 hg hr, boxed_own (b + 3) 4 (fun _ => .bool false) t A B row h3 hg hr, h4, boxed_own (b + 4) 9 (fun _ => .string s) t A B row h5 hg hr,
      h6.of_eq (hg.block (b + 5) h6.lt (fun e => by
        obtain ⟨o, ho, hc⟩ := hr _ e.symm
        unfold Blk at h6
        rw [h6] at ho
        cases ho
        cases hc))⟩
  case hIx =>
    intro c
    refine OwnFrom.and (Own.from (fun t A B row hs hg hr => ?_) _) (ownFrom_below (by omega) (by omega))
    obtain ⟨h1, ⟨ini, x, e1, e2, e3, h2⟩, h3⟩ := hs
    exact ⟨h1, ⟨ini, x, e1, e2, e3, boxed_own (b + 2) 3 (fun _ => .int .i64 (lastAt ini)) t A B row h2 hg hr⟩, boxed_own (b + 3) 4 (fun _ => .bool true) t A B row h3 hg hr⟩
  case h0 => exact ⟨⟨⟨_, BO, World.ownsRow_nil _ _ _ _, trivial⟩, BA, BW, fun ini x rest h => by simp at h, BS, BM⟩, hB0⟩
  case assign =>
    intro l x W K hK
    unfold encP
    gi_wp2
    exact hK
  case body =>
    rintro l pre x W ⟨⟨⟨v, hv, hrow, -⟩, hA, hWr, hG, hS, hM⟩, hB⟩ hlt
    have hc := hv.cell
    have hca := hA.cell
    have hcw := hWr.cell
    have hfa := hA.frozen
    have hfw := hWr.frozen
    by_cases hx : x.1 = lastAt pre
    · have e1 : (x.1 == lastAt pre) = true := by simpa using hx
      gi_wp2
      exact ⟨(KeepsOthers.setCell _ _ _).from _, ⟨rfl, ⟨pre, x, rfl, hG, hx, Boxed.other hA (by omega) _⟩, hWr.set _⟩, hB.setCell (p := ⟨b + 3, 0, none⟩) (by show b ≤ b + 3; omega) _⟩
    · have e1 : (x.1 == lastAt pre) = false := by simpa using hx
      have nM : some (b + 5) ≠ v.ownBlock := fun e => by
        obtain ⟨_, h2⟩ := hrow
        rcases h2 with ⟨rfl, _⟩ | ⟨g, cap, cur, rfl, hg, hh, _⟩
        · cases e
        · cases e
          unfold Blk at hM
          rw [hM] at hh
          cases hh
      gi_wp2_with (gi_at_builtin; refine wpListIn_append_own _ rfl _ _ 33 rfl b 5 i0 (.int .u8 0) 1 1 Try.underlying33 hi hz0 hz1 hz2 rfl (by decide) _ _ _ rfl (hrow.alloc _) ⟨W.heap.size, 0, none⟩ 1 1 [.int .u8 x.2] rfl rfl (cell_one_new _ _ _) (by simp [Value.oneCell']) (by unfold maxLen; omega) (by omega) (by have := hB.size; simp; omega) ?_; intro v' w1 hown' hgrow _; obtain ⟨g', cap', rfl⟩ := ownsRow_succ hown'; obtain ⟨hv1, hv2, hr2, hk2, hb2⟩ := hv.appended (by decide) hrow (by have := hB.size; omega) (by omega) hown' hgrow; have hc1 := hv1.cell; have hf1 := hv1.frozen; have hA1 := (hA.alloc _).kept hgrow (hA.not_row (by decide) hrow); have hca1 := (Boxed.other hA1 (show b + 2 ≠ b + 1 by omega) (.slice (some ⟨g', 0, none⟩) (pre.length + 1) cap')).cell; have hfa1 := (Boxed.other hA1 (show b + 2 ≠ b + 1 by omega) (.slice (some ⟨g', 0, none⟩) (pre.length + 1) cap')).frozen)
      have hA2 := Boxed.other hA1 (show b + 2 ≠ b + 1 by omega) (.slice (some ⟨g', 0, none⟩) (pre.length + 1) cap')
      have hW2 := Boxed.other ((hWr.alloc (.cells #[.int .u8 x.2] 5)).kept hgrow (hWr.not_row (by decide) hrow)) (show b + 3 ≠ b + 1 by omega) (.slice (some ⟨g', 0, none⟩) (pre.length + 1) cap')
      have hS2 := Boxed.other ((hS.alloc (.cells #[.int .u8 x.2] 5)).kept hgrow (hS.not_row (by decide) hrow)) (show b + 4 ≠ b + 1 by omega) (.slice (some ⟨g', 0, none⟩) (pre.length + 1) cap')
      have hM2 : Blk (w1.setCell ⟨b + 1, 0, none⟩ (.slice (some ⟨g', 0, none⟩) (pre.length + 1) cap')) (b + 5) [.int .u64 m.w0, .int .u64 m.w1, .int .u64 m.w2, .int .u64 m.w3] 24 := ((hM.alloc (.cells #[.int .u8 x.2] 5)).of_eq (hgrow.block (b + 5) (hM.alloc _).lt nM)).other (by show b + 5 ≠ b + 1; omega) _
      have hrow2 := hr2.kept (grownBy_setCell' _ (b + 2) (.int .i64 x.1)) (.inr fun e => hA2.not_row (by decide) hr2 e.symm)
      refine ⟨(hk2.trans (KeepsOthers.setCell _ _ _)).from _, ⟨?_, ?_, ?_⟩, ⟨⟨_, Boxed.other hv2 (by omega) _, by rw [List.length_append, List.map_append]; exact hrow2, trivial⟩, by rw [lastAt_snoc]; exact hA2.set _, Boxed.other hW2 (by omega) _, ?_, Boxed.other hS2 (by omega) _, hM2.other (by show b + 5 ≠ b + 2; omega) _⟩, ?_⟩
      · have h := hgrow.size
        rw [World.size_alloc] at h
        simp only [World.setCell, Array.size_modify]
        omega
      · exact (Boxed.other hS2 (show b + 4 ≠ b + 2 by omega) (.int .i64 x.1)).trans hS.symm
      · exact (hM2.other (show b + 5 ≠ b + 2 by omega) (.int .i64 x.1)).trans hM.symm
      · exact goes_snoc hG hx
      · exact (hB.trans hb2).setCell (p := ⟨b + 2, 0, none⟩) (by show b ≤ b + 2; omega) _
  case done =>
    rintro D ys W hD rfl ⟨⟨⟨v, hv, hrow, -⟩, hA, hWr, hG, hS, hM⟩, hB⟩ hK
    have hc := hv.cell
    have hca := hA.cell
    have hcw := hWr.cell
    rw [bytes_cells ys (by rw [← hxs]; exact eachF_byte m _ _ _)] at hrow
    have kc : (convert 33 9 v).run Try.prog W.drew = _ := own_string (w := W.drew) hrow
    have kd := own_string hrow
    go_wp2
    go_region
    go_wp2
    refine ⟨by simp, .inl ⟨_, _, rfl, run_takeDeferred hK, ?_⟩⟩
    refine ⟨.tuple #[.string ⟨(ys.map fun x => UInt8.ofNat x.2.toNat).toArray⟩, .int .i64 (lastAt ys), .int .i64 0], by simp [results, Try.results19, go_sem], .inl ⟨ys, hxs, hG, rfl⟩, ?_⟩
    rw [hb]
    exact hB.drew.trans (belowK_b (w := w) (by omega) W.drew D _ _ (by omega) hK rfl rfl)
  case stop =>
    rintro D c pre W hD hpre ⟨⟨rfl, ⟨ini, x, rfl, hG, hx, hA⟩, hWr⟩, hB⟩ hK
    refine wpIn_wide.2 ?_
    have hca := hA.cell
    have hcw := hWr.cell
    go_wp2
    go_region
    go_wp2
    refine ⟨by simp, .inl ⟨_, _, rfl, run_takeDeferred hK, ?_⟩⟩
    refine ⟨.tuple #[.string ⟨#[]⟩, .int .i64 (lastAt ini), .int .i64 20], by simp [results, Try.results19, go_sem], .inr ⟨ini, x, by rw [hxs]; exact hpre, hG, hx, rfl⟩, ?_⟩
    rw [hb]
    exact hB.drew.trans (belowK_b (w := w) (by omega) W.drew D _ _ (by omega) hK rfl rfl)
end Go.Proofs.Ytoogopcaieodoaa
