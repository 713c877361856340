/-
  Layer 7's search: the iterator hands over what is found, in its order. No condition.
-/
import Derived.Test.YthpdflpkkiabhaaQu
import Derived.Test.YthpdflpkkiabhaaBc
import Derived.Shelf.Abstract
import Derived.Shelf.RegionOpen
import Derived.Stop.RegionWithIn
import Derived.OwnWalkIn
import Derived.TacticsInMore
import Derived.LoopIn
namespace Go.Proofs.Ythpdflpkkiabhaa
open Go.RowKit Go.Shelf
attribute [local go_sem] onto_cell onto_frozen
attribute [local go_sem] Oper.semAt_some
set_option linter.unusedVariables false
def encQ (x : Int × Int) : Array Value := #[.int .i64 x.1, .int .i64 x.2]
def succL (next : List (List Int)) (p : Int) : List Int := next.getD p.toNat []
/-- Slices in a row, at known places. -/
structure RowsF (w : World) (a : Option Addr) (n : Nat) (xss : List (List Int)) (A : Nat → Option Addr) (C : Nat → Nat) : Prop where
  len : xss.length = n
  cell : n = 0 ∨ ∃ b off, a = some ⟨b, off, none⟩ ∧ b < w.heap.size ∧ ∀ i, i < n → w.cell? ⟨b, off + i, none⟩ = some (.slice (A i) (xss.getD i []).length (C i)) ∧ Ints w (A i) (xss.getD i []).length (xss.getD i [])
theorem RowsF.non {w w' : World} {a : Option Addr} {n : Nat} {xss : List (List Int)} {A : Nat → Option Addr} {C : Nat → Nat} (h : RowsF w a n xss A C) (k : Keeps Non w w') : RowsF w' a n xss A C :=
  ⟨h.len, h.cell.imp id fun ⟨b, off, ha, hb, hc⟩ => ⟨b, off, ha, Nat.lt_of_lt_of_le hb k.size, fun i hi => ⟨(k.cell (p := ⟨b, off + i, none⟩) hb (fun x => x)).trans (hc i hi).1, (hc i hi).2.non k⟩⟩⟩
theorem Rows.fixed {w : World} {a : Option Addr} {n : Nat} {xss : List (List Int)} (h : Rows w a n xss) : ∃ A C, RowsF w a n xss A C := by
  rcases h.cell with h0 | ⟨b, off, ha, hb, hc⟩
  · exact ⟨fun _ => none, fun _ => 0, h.len, .inl h0⟩
  · refine ⟨fun i => if hi : i < n then (hc i hi).choose else none, fun i => if hi : i < n then (hc i hi).choose_spec.choose else 0, h.len, .inr ⟨b, off, ha, hb, fun i hi => ?_⟩⟩
    simp only [dif_pos hi]
    exact (hc i hi).choose_spec.choose_spec
/-- The search's own state, from block s on; T: the loop's blocks. -/
structure St (s np : Nat) (T : Nat → Prop) (v : Value) (F zs : List (Int × Int)) (w : World) : Prop where
  bm : Blk w (s + 1) [.slice (some ⟨s, 0, none⟩) np np] 64
  m : Blk w s (metL np F) 4
  bw : Blk w (s + 1 + 1) [v] 82
  q : Que w v zs
  own : ∀ g, v.ownBlock = some g → s ≤ g ∧ ¬ T g
  t0 : ¬ T s
  t1 : ¬ T (s + 1)
  t2 : ¬ T (s + 1 + 1)
theorem St.of_eq {s np : Nat} {T T' : Nat → Prop} {v : Value} {F zs : List (Int × Int)} {A B : World} (h : St s np T v F zs A) (k : Keeps T A B) (hT : ∀ k, T' k → T k ∨ A.heap.size ≤ k) : St s np T' v F zs B := by
  have l0 := h.m.lt
  have l1 := h.bm.lt
  have l2 := h.bw.lt
  exact ⟨h.bm.keeps k h.t1, h.m.keeps k h.t0, h.bw.keeps k h.t2, h.q.of_eq (fun g hg hl => k.block g hl (h.own g hg).2), fun g hg => ⟨(h.own g hg).1, fun hT' => by
    rcases hT g hT' with h1 | h1
    · exact (h.own g hg).2 h1
    · have := h.q.lt g hg; omega⟩, fun hT' => by rcases hT _ hT' with h1 | h1; exact h.t0 h1; omega, fun hT' => by rcases hT _ hT' with h1 | h1; exact h.t1 h1; omega, fun hT' => by rcases hT _ hT' with h1 | h1; exact h.t2 h1; omega⟩
theorem St.added {s np : Nat} {T : Nat → Prop} {v : Value} {F zs : List (Int × Int)} {w w' : World} {o x p : Int} {e : Ending} (h : St s np T v F zs w) (hT : ∀ k, T k → k < w.heap.size) (hp : AddP np o s (s + 1 + 1) F zs v x p w e w') :
    (∃ r, e = .returned r) ∧ ∃ v' zs', St s np T v' (add o F x p) (zs ++ zs') w' ∧ add o F x p = F ++ zs' ∧ (v'.ownBlock = v.ownBlock ∨ ∃ g, v'.ownBlock = some g ∧ w.heap.size ≤ g) ∧ Keeps (fun k => k = s ∨ k = s + 1 + 1 ∨ v.ownBlock = some k) w w' := by
  obtain ⟨hr, v', zs', h1, h2, h3, h4, h5, h6⟩ := hp
  refine ⟨hr, v', zs', ⟨h.bm.keeps h6 ?_, h1, h2, h3, fun g hg => ?_, h.t0, h.t1, h.t2⟩, h4, h5, h6⟩
  · rintro (e | e | e)
    · omega
    · omega
    · exact h.q.ne h.bm (by decide) _ e rfl
  · rcases h5 with h5 | ⟨g', h5, h7⟩
    · rw [h5] at hg
      exact h.own g hg
    · rw [h5] at hg
      cases hg
      exact ⟨by have := h.m.lt; omega, fun hTg => by have := hT g hTg; omega⟩
theorem St.owns {s np : Nat} {T : Nat → Prop} {v : Value} {F zs : List (Int × Int)} {w : World} (h : St s np T v F zs w) {k : Nat} (hk : k = s ∨ k = s + 1 + 1 ∨ v.ownBlock = some k) : ¬ T k ∧ s ≤ k := by
  rcases hk with rfl | rfl | hk
  · exact ⟨h.t0, Nat.le_refl _⟩
  · exact ⟨h.t2, by omega⟩
  · exact ⟨(h.own k hk).2, (h.own k hk).1⟩
theorem Que.head {w : World} {v : Value} {x : Int × Int} {zs : List (Int × Int)} (h : Que w v (x :: zs)) : ∃ g o cap, v = .slice (some ⟨g, o, none⟩) (zs.length + 1) cap ∧ zs.length + 1 ≤ cap ∧ cap ≤ 9223372036854775807 ∧ g < w.heap.size ∧
    w.cell? ⟨g, o, none⟩ = some (.int .i64 x.1) ∧ w.cell? ⟨g, o + 1, none⟩ = some (.int .i64 x.2) ∧ (∀ w' : World, w'.heap[g]? = w.heap[g]? → (cap - 1 = 0 → Que w' (.slice (some ⟨g, o, none⟩) zs.length (cap - 1)) zs) ∧ Que w' (.slice (some ⟨g, o + 2, none⟩) zs.length (cap - 1)) zs) := by
  rcases h with ⟨_, h⟩ | ⟨g, o, cap, cur, rfl, h1, h2, h3, h4, h5⟩
  · cases h
  · have e0 : ∀ j, j < 2 * (zs.length + 1) → cur[o + j]? = (cellsP (x :: zs))[j]? := fun j hj => by
      rw [← h5, List.getElem?_take, if_pos (by simpa using hj), List.getElem?_drop]
      simp
    refine ⟨g, o, cap, rfl, by simpa using h2, h3, (Array.getElem?_eq_some_iff.1 h1).1, ?_, ?_, fun w' hw => ⟨fun hc => ?_, ?_⟩⟩
    · rw [cell_of_row w g o cur 83 (0, 0) h1]
      have := e0 0 (by omega)
      simpa [cellsP] using this
    · rw [cell_of_row w g (o + 1) cur 83 (0, 0) h1]
      have := e0 1 (by omega)
      simpa [cellsP] using this
    · have hz : zs = [] := List.eq_nil_of_length_eq_zero (by simp only [List.length_cons] at h2; omega)
      subst hz
      exact .inr ⟨g, o, cap - 1, cur, rfl, hw.trans h1, by simp, by omega, by omega, by simp [cellsP]⟩
    · simp only [List.length_cons] at h2 h5
      refine .inr ⟨g, o + 2, cap - 1, cur, rfl, hw.trans h1, by omega, by omega, by omega, ?_⟩
      have h6 := congrArg (List.drop 2) h5
      rw [List.drop_take, List.drop_drop] at h6
      have e1 : 2 * (zs.length + 1) - 2 = 2 * zs.length := by omega
      rw [e1] at h6
      exact h6
theorem adds_snoc (o p : Int) : ∀ (l : List Int) (x : Int) (F : List (Int × Int)), adds o p (l ++ [x]) F = add o (adds o p l F) x p
  | [], x, F => rfl
  | y :: l, x, F => by
    simp only [List.cons_append, adds]
    exact adds_snoc o p l x _
theorem begins_snoc (o : Int) : ∀ (l : List Int) (x : Int) (F : List (Int × Int)), begins o (l ++ [x]) F = add o (begins o l F) x x
  | [], x, F => rfl
  | y :: l, x, F => by
    simp only [List.cons_append, begins]
    exact begins_snoc o l x _
theorem info64 : (Try.prog.info? 4).map (fun i => (i.zero, i.size, i.bytes)) = some (some (.bool false), 1, 1) := by kernel_rfl
theorem info4_parts : ∃ i, Try.prog.info? 4 = some i ∧ i.zero = some (.bool false) ∧ i.size = 1 ∧ i.bytes = 1 := by
  have h := info64
  cases hq : Try.prog.info? 4 with
  | none => rw [hq] at h; simp at h
  | some i =>
    rw [hq] at h
    simp only [Option.map_some, Option.some.injEq, Prod.mk.injEq] at h
    exact ⟨i, rfl, h.1, h.2.1, h.2.2⟩
theorem metL_nil (n : Nat) : metL n [] = List.replicate n (.bool false) := by
  simp [metL, List.map_const']
theorem make64 (w : World) (n : Nat) (hn : n ≤ 100000) : (Instr.makeSlice 64 (.int .i64 (n : Int)) (.int .i64 (n : Int))).run Try.prog w = .ok (.slice (some ⟨w.heap.size, 0, none⟩) n n) (w.alloc (.cells (metL n []).toArray 4)) := by
  obtain ⟨i, h1, h2, h3, h4⟩ := info4_parts
  have := run_makeSlice (P := Try.prog) w 64 4 i (.bool false) Try.underlying64 h1 h2 .i64 .i64 (n : Int) (n : Int) (by omega) (by omega) (by rw [h3]; simp; omega) (by rw [h4]; simp; omega) (by omega)
  rw [this, h3]
  simp only [Int.toNat_natCast, Nat.mul_one]
  rw [show (Value.bool false).cells = #[.bool false] from rfl, made_list, metL_nil]
theorem ent66 : Ent 66 := ent_of Try.func66 (by decide) rfl
theorem ent65 : Ent 65 := ent_of Try.func65 (by decide) rfl
open Classical in
/-- The least number of which R holds (0 if there is none). -/
noncomputable def least (R : Nat → World → Prop) (w : World) : Nat := if h : ∃ m, R m w ∧ ∀ j, R j w → m ≤ j then h.choose else 0
theorem least_of {R : Nat → World → Prop} {w : World} (h : ∃ m, R m w) : R (least R w) w ∧ ∀ j, R j w → least R w ≤ j := by
  have h2 : ∃ m, R m w ∧ ∀ j, R j w → m ≤ j := by
    obtain ⟨m, hm⟩ := h
    induction m using Nat.strongRecOn with
    | ind m ih =>
      by_cases hj : ∃ j, j < m ∧ R j w
      · obtain ⟨j, h1, h2⟩ := hj
        exact ih j h1 h2
      · exact ⟨m, hm, fun j hj2 => Nat.le_of_not_lt fun hl => hj ⟨j, hl, hj2⟩⟩
  unfold least
  rw [dif_pos h2]
  exact h2.choose_spec
set_option maxRecDepth 100000 in
set_option maxHeartbeats 4000000 in
theorem found_hands (n : Nat) (hn : 1 ≤ n) (nx : Option Addr) (np cn : Nat) (sa : Option Addr) (ns cs : Nat) (next : List (List Int)) (starts : List Int) (o : Int) (S0 : Nat → Prop) (w0 : World) (Bn : Nat) (AA : Nat → Option Addr) (CC : Nat → Nat)
    (hb1 : Blk w0 Bn [.slice nx np cn] 23) (hb2 : Blk w0 (Bn + 1) [.int .i64 o] 3) (hb3 : Blk w0 (Bn + 2) [.slice sa ns cs] 25) (hs1 : ¬ S0 Bn) (hs2 : ¬ S0 (Bn + 1)) (hs3 : ¬ S0 (Bn + 2))
    (hR : ∀ W, Keeps S0 w0 W → RowsF W nx np next AA CC ∧ Ints W sa ns starts) (hnp : np ≤ 100000) (hns : ns ≤ 100000) (hbd : ∀ p, 0 ≤ p ∧ p < (np : Int) → ∀ q ∈ succL next p, 0 ≤ q ∧ q < (np : Int)) (hst : ∀ x ∈ starts, 0 ≤ x ∧ x < (np : Int)) :
    Hands n 65 #[.pointer (some ⟨Bn, 0, none⟩), .pointer (some ⟨Bn + 1, 0, none⟩), .pointer (some ⟨Bn + 2, 0, none⟩)] encQ S0 (foundL (succL next) o np starts) w0 := by
  intro l J T0 W hWk hT0 hab hY h0
  obtain ⟨L, hL⟩ : ∃ L, foundL (succL next) o np starts = L := ⟨_, rfl⟩
  rw [hL] at hY ⊢
  obtain ⟨s, hs⟩ : ∃ s, W.heap.size = s := ⟨_, rfl⟩
  -- what is read stays so
  have HR : Hid (∀ wr, Keeps T0 W wr → RowsF wr nx np next AA CC ∧ Ints wr sa ns starts ∧ Blk wr Bn [.slice nx np cn] 23 ∧ Blk wr (Bn + 1) [.int .i64 o] 3 ∧ Blk wr (Bn + 2) [.slice sa ns cs] 25) := fun wr hk => by
    have hk2 : Keeps S0 w0 wr := (hWk.weak (fun _ _ h => h.elim) : Keeps S0 w0 W).trans hk (fun k hk h => by
      rcases (hT0 k h).1 with h | h
      · exact h
      · omega)
    exact ⟨(hR wr hk2).1, (hR wr hk2).2, hb1.keeps hk2 hs1, hb2.keeps hk2 hs2, hb3.keeps hk2 hs3⟩
  have HT0 : Hid (∀ k, T0 k → k < s) := fun k h => by rw [← hs]; exact (hT0 k h).2
  have HAb : Hid (∀ pre T A B, J pre T A → Keeps (fun k => ¬ T k ∧ s ≤ k) A B → J pre T B) := by rw [← hs]; exact hab
  have HY := hide hY
  have HJ0 := hide h0
  have HL := hide hL
  have HBd := hide hbd
  have HSt_ := hide hst
  have r0 := HR.out W (Keeps.refl _ _)
  have c1 := r0.2.2.1.cell 0
  have c2 := r0.2.2.2.1.cell 0
  have k3 : Keeps (fun k => ¬ T0 k ∧ s ≤ k) W (((W.alloc (.cells (metL np []).toArray 4)).alloc (.cells #[.slice (some ⟨s, 0, none⟩) np np] 64)).alloc (.cells #[.slice none 0 0] 82)) := (((Keeps.refl _ W).alloc _).alloc _).alloc _
  have c3 := (HR.out _ (k3.weak (S := fun k => ¬ T0 k ∧ s ≤ k) (T := T0) (fun k hk h => by have := h.2; omega))).2.2.2.2.cell 0
  simp only [List.getElem?_cons_zero] at c1 c2 c3
  have hms := make64 W np hnp
  rw [hs] at hms
  have HSt0 : Hid (St s np T0 (.slice none 0 0) [] [] (((W.alloc (.cells (metL np []).toArray 4)).alloc (.cells #[.slice (some ⟨s, 0, none⟩) np np] 64)).alloc (.cells #[.slice none 0 0] 82))) :=
    ⟨(Blk.newAt _ [.slice (some ⟨s, 0, none⟩) np np] 64 (by simp [hs])).alloc _, ((Blk.newAt W (metL np []) 4 hs.symm).alloc _).alloc _, Blk.newAt _ [.slice none 0 0] 82 (by simp [hs]), .inl ⟨rfl, rfl⟩, fun g hg => (by cases hg),
      fun h => (by have := HT0.out _ h; omega), fun h => (by have := HT0.out _ h; omega), fun h => (by have := HT0.out _ h; omega)⟩
  have HK3 := hide k3
  have HMs := hide hs
  clear hWk hT0 hab hY h0 hL hR hbd hst hb1 hb2 hb3 hs1 hs2 hs3 r0 k3
  refine callsIn_of_wp Try.func65 rfl trivial ?_ rfl
  simp only [Try.ntmps65, List.size_toArray, List.length_cons, List.length_nil, Nat.reduceAdd, Nat.reduceSub, Array.replicate_succ, Array.replicate_zero, List.push_toArray, List.append_toArray, List.nil_append, List.cons_append]
  gi_wp2
  obtain ⟨W3, hW3⟩ : ∃ W3, ((W.alloc (.cells (metL np []).toArray 4)).alloc (.cells #[.slice (some ⟨s, 0, none⟩) np np] 64)).alloc (.cells #[.slice none 0 0] 82) = W3 := ⟨_, rfl⟩
  rw [hW3] at HSt0 HK3 ⊢
  clear hW3 c1 c2 c3 hms
  have HJ3 := hide (HAb.out _ _ _ _ HJ0.out HK3.out)
  gi_loopw [19] (fun i wr => ∃ (k : Nat) (F : List (Int × Int)) (v : Value), k ≤ ns ∧ i = .int .i64 k ∧ Hid (begins o (starts.take k) [] = F) ∧ F.length ≤ k ∧ Hid (St s np T0 v F F wr) ∧ Hid (J [] T0 wr) ∧ Hid (Keeps (fun k => ¬ T0 k ∧ s ≤ k) W wr)) (fun i _ => ns - (intOf i).toNat)
  case atStart => exact ⟨0, [], _, by omega, rfl, rfl, by simp, HSt0.out, HJ3.out, HK3.out⟩
  case round =>
    clear HSt0 HK3 HJ3
    obtain ⟨k, F, v, hk, rfl, HF, hFk, HSt, HJ, HK⟩ := hrel
    have HRd := hide (HR.out wr (HK.out.weak (fun k hk h => by have := h.2; have := HMs.out; omega)))
    by_cases hlt : k < ns
    · obtain ⟨b1, o1, rfl, hb1, hc1⟩ := HRd.out.2.1.at (by omega)
      have ck := hc1 k hlt
      have cS := HRd.out.2.2.2.2.cell 0
      simp only [List.getElem?_cons_zero] at cS
      have hsl := HRd.out.2.1.len
      obtain ⟨x, hx⟩ : ∃ x, starts.getD k 0 = x := ⟨_, rfl⟩
      rw [hx] at ck
      have hxb := HSt_.out x (by rw [← hx, getD_num (by omega)]; exact List.getElem_mem _)
      obtain ⟨xi, rfl⟩ := Int.eq_ofNat_of_zero_le hxb.1
      have hxn : xi < np := by omega
      have HTk : Hid (starts.take (k + 1) = starts.take k ++ [(xi : Int)]) := take_snocI (by omega) hx
      have HC := hide (add_l np xi o xi (s + 1) s (Bn + 1) (s + 1 + 1) F F v wr hxn (by omega) HSt.out.bm HSt.out.m HRd.out.2.2.2.1 HSt.out.bw HSt.out.q)
      have z0 : (0 : Int) ≤ (k : Int) := by omega
      have z1 : (k : Int) < (ns : Int) := by omega
      clear hc1 hx hsl hxb
      gi_wp2
      refine ⟨trivial, (callsIn_wide.2 HC.out).mono ?_⟩
      rintro e w2 hp
      obtain ⟨⟨r, rfl⟩, v', zs', hSt2, hF2, hown2, hk2⟩ := HSt.out.added (fun g hg => Nat.lt_of_lt_of_le (HT0.out g hg) (by have := HK.out.size; have := HMs.out; omega)) hp
      have HK2 := hide (HK.out.then (hk2.weak (fun g _ h => HSt.out.owns h)))
      have HJ2 := hide (HAb.out _ _ _ _ HJ.out (hk2.weak (fun g _ h => HSt.out.owns h)))
      have HF2 : Hid (begins o (starts.take (k + 1)) [] = F ++ zs') := by
        show _ = _
        rw [HTk.out, begins_snoc, HF.out, hF2]
      have HSt2 : Hid (St s np T0 v' (F ++ zs') (F ++ zs') w2) := by
        show St _ _ _ _ _ _ _
        rw [hF2] at hSt2
        exact hSt2
      have hl2 : (F ++ zs').length ≤ k + 1 := by
        rw [← hF2]
        unfold add
        split
        · omega
        · simp; omega
      clear hp hSt2 hF2 hown2 hk2
      gi_wp2
      go_roundw
      case rel => exact ⟨k + 1, _, v', by omega, by go_num, HF2.out, hl2, HSt2.out, HJ2.out, HK2.out⟩
      case measure => simp [intOf]; omega
    · have hkn : k = ns := by omega
      subst hkn
      have HF2 : Hid (begins o starts [] = F) := by
        show _ = _
        rw [← HF.out, List.take_of_length_le (by rw [HRd.out.2.1.len]; exact Nat.le_refl _)]
      obtain ⟨RL, hRL⟩ : ∃ RL : Nat → World → Prop, RL = fun m wr => ∃ (F : List (Int × Int)) (k : Nat) (T : Nat → Prop) (v : Value), np = k + m ∧ k ≤ F.length ∧ Ok np o F ∧ bfs (succL next) o m F k = L ∧ St s np T v F (F.drop k) wr ∧ J (F.take k) T wr ∧ (∀ g, T g → (T0 g ∨ s ≤ g) ∧ g < wr.heap.size) ∧ Keeps T0 W wr := ⟨_, rfl⟩
      have HRL := hide hRL
      have H0 : Hid (RL np wr) := by
        show RL np wr
        rw [hRL]
        have hsz := HK.out.size
        refine ⟨F, 0, T0, v, by omega, by omega, ?_, ?_, by rw [List.drop_zero]; exact HSt.out, by rw [List.take_zero]; exact HJ.out, fun g hg => ⟨.inl hg, by have := HT0.out g hg; have := HMs.out; omega⟩, HK.out.weak (fun g hg h => by have := h.2; have := HMs.out; omega)⟩
        · rw [← HF2.out]
          exact ok_begins (ok_nil np o) HSt_.out
        · rw [← HF2.out]
          exact HL.out
      have y9 : ¬ (k : Int) < (k : Int) := by omega
      clear hRL HF HF2 HSt HJ HK hFk HRd
      gi_wp2
      gi_loopw [28] (fun _ wr => ∃ m, RL m wr) (fun _ wr => least RL wr)
      case atStart => exact ⟨np, H0.out⟩
      case round =>
        clear H0
        have hm := least_of hrel
        obtain ⟨m, hmm⟩ : ∃ m, least RL wr = m := ⟨_, rfl⟩
        rw [hmm] at hm
        have HMe := hide hmm
        obtain ⟨hm, -⟩ := hm
        rw [HRL.out] at hm
        obtain ⟨F, k2, T, v, hkm, hkF, hOk, hBf, hSt, hJ, hT, hK⟩ := hm
        have HKm := hide hkm
        have HOk := hide hOk
        have HBf := hide hBf
        have hFn := hOk.few
        clear hkm hOk hBf
        have cN := (HR.out wr hK).2.2.1.cell 0
        simp only [List.getElem?_cons_zero] at cN
        have cw := hSt.bw.cell 0
        simp only [List.getElem?_cons_zero] at cw
        by_cases hlt : k2 < F.length
        · obtain ⟨x, hx⟩ : ∃ x, F[k2]? = some x := ⟨_, List.getElem?_eq_getElem hlt⟩
          have hdr : F.drop k2 = x :: F.drop (k2 + 1) := by
            rw [List.drop_eq_getElem_cons hlt]
            congr 1
            rw [List.getElem?_eq_getElem hlt] at hx
            exact Option.some.inj hx
          have htk : F.take (k2 + 1) = F.take k2 ++ [x] := by
            rw [List.take_add_one, hx]
            rfl
          have hSt' := hSt
          rw [hdr] at hSt'
          obtain ⟨g, oq, cap, rfl, hq1, hq2, hg, hc0, hc1, hQn⟩ := hSt'.q.head
          have fw := hSt.bw.free 0 none
          have lw := hSt.bw.lt
          have hxb := HOk.out.pt x (List.mem_of_getElem? hx)
          obtain ⟨⟨xp, xf⟩, rfl⟩ : ∃ y, y = x := ⟨_, rfl⟩
          obtain ⟨pi, rfl⟩ := Int.eq_ofNat_of_zero_le hxb.1
          have hpi : pi < np := by have := hxb.2; simp only at this; omega
          obtain ⟨zs, hzs⟩ : ∃ zs, F.drop (k2 + 1) = zs := ⟨_, rfl⟩
          rw [hzs] at hSt' hq1 hQn hdr cw
          have HSt2 := hide hSt'
          have HQn := hide hQn
          have HJ := hide hJ
          have HT := hide hT
          have HK := hide hK
          have HX : Hid (F[k2]? = some ((pi : Int), xf) ∧ F.take (k2 + 1) = F.take k2 ++ [((pi : Int), xf)] ∧ F.drop (k2 + 1) = zs) := ⟨hx, htk, hzs⟩
          simp only at hc0 hc1
          clear hSt hJ hT hK hSt' hQn hx htk hzs hdr hxb
          gi_wp2
          · have HQ0 : Hid (∀ w' : World, w'.heap[g]? = wr.heap[g]? → Que w' (.slice (some ⟨g, oq, none⟩) zs.length 0) zs) := fun w' hw => by
              have h1 := (HQn.out w' hw).1 (by omega)
              have e : cap - 1 = 0 := by omega
              rw [e] at h1
              exact h1
            have HvB : Hid ((Value.slice (some ⟨g, oq, none⟩) zs.length 0).ownBlock = some g) := rfl
            obtain ⟨vN, hvN⟩ : ∃ vN, Value.slice (some ⟨g, oq, none⟩) zs.length 0 = vN := ⟨_, rfl⟩
            rw [hvN] at HQ0 HvB ⊢
            clear hvN HQn
            obtain ⟨A, hA⟩ : ∃ A, (wr.setCell ⟨s + 1 + 1, 0, none⟩ vN).alloc (.cells #[.int .i64 (pi : Int), .int .i64 xf] 83) = A := ⟨_, rfl⟩
            have kA : Keeps (fun b => ¬ T b ∧ s ≤ b) wr A := by
              rw [← hA]
              exact ((Keeps.refl _ wr).set (.inl ⟨HSt2.out.t2, by omega⟩) _).alloc _
            have szA : A.heap.size = wr.heap.size + 1 := by rw [← hA]; simp [World.setCell]
            have HStA : Hid (St s np T vN F zs A) := by
              have h := HSt2.out
              have ng : g ≠ s + 1 + 1 := h.q.ne h.bw (by decide) g rfl
              refine ⟨?_, ?_, ?_, ?_, fun b hb => h.own b (by rw [HvB.out] at hb; exact hb), h.t0, h.t1, h.t2⟩
              · rw [← hA]; exact (h.bm.other (by show s + 1 ≠ s + 1 + 1; omega) _).alloc _
              · rw [← hA]; exact (h.m.other (by show s ≠ s + 1 + 1; omega) _).alloc _
              · rw [← hA]; exact (h.bw.store 0 vN).alloc _
              · refine HQ0.out A ?_
                rw [← hA]
                exact (Below.heap_alloc _ _ _ (by simpa [World.setCell] using hg)).trans (Below.heap_setCell _ _ _ _ ng)
            have HbA : Hid (Blk A wr.heap.size [.int .i64 (pi : Int), .int .i64 xf] 83) := by
              rw [← hA]
              exact Blk.newAt _ _ _ (by simp [World.setCell])
            have hJA := HAb.out _ _ _ _ HJ.out kA
            have HKA : Hid (Keeps T0 W A) := HK.out.trans kA (fun b hb h => by have := h.2; have := HMs.out; omega)
            have hpre : F.take k2 ++ [((pi : Int), xf)] <+: L := by
              rw [← HX.out.2.1, ← HBf.out]
              exact (List.take_prefix _ _).trans (bfs_pre _ _ _ _ _)
            have hYA := HY.out (F.take k2) ((pi : Int), xf) T A hpre hJA (fun b hb => by have := (HT.out b hb).2; omega)
            obtain ⟨fn, tmps, assign, body, hy, hRd⟩ := hYA
            dsimp only [encQ] at hy
            obtain ⟨b10, hb10⟩ : ∃ b, wr.heap.size = b := ⟨_, rfl⟩
            rw [hb10] at HbA szA
            try rw [hb10]
            rw [hA]
            have HT2 : Hid (∀ b, T b → (T0 b ∨ s ≤ b) ∧ b < b10) := by rw [← hb10]; exact HT.out
            have Hg10 : Hid (g < b10) := by show g < b10; omega
            clear hJA hA kA HQ0 hpre HJ
            rw [hy]
            gi_wp2
            refine hRd.mono ?_
            rintro e B ⟨rfl, T', hJB, hAB, hT'⟩
            have HStB := hide (HStA.out.of_eq hAB (fun b hb => (hT' b hb).1))
            have HbB := hide (HbA.out.keeps hAB (fun hb => by have := (HT2.out _ hb).2; omega))
            have HKB : Hid (Keeps T0 W B) := HKA.out.trans hAB (fun b hb h => by
              rcases (HT2.out b h).1 with h | h
              · exact h
              · have := HMs.out; omega)
            have HTB : Hid (∀ b, T' b → (T0 b ∨ s ≤ b) ∧ b < B.heap.size ∧ b ≠ b10) := fun b hb => by
              obtain ⟨h1, h2⟩ := hT' b hb
              have hsA := HStA.out.m.lt
              refine ⟨?_, h2, ?_⟩
              · rcases h1 with h1 | h1
                · exact (HT2.out b h1).1
                · exact .inr (by omega)
              · rcases h1 with h1 | h1
                · have := (HT2.out b h1).2; omega
                · omega
            have HJB := hide hJB
            clear hJB hAB hT' hy hRd
            have hrB := HR.out B HKB.out
            obtain ⟨bN, oN, hnx, hbN, hcN⟩ := hrB.1.cell.resolve_left (by omega)
            obtain ⟨hci, hIi⟩ := hcN pi hpi
            obtain ⟨ai, hai⟩ : ∃ ai, AA pi = ai := ⟨_, rfl⟩
            obtain ⟨ci, hcc⟩ : ∃ ci, CC pi = ci := ⟨_, rfl⟩
            rw [hai, hcc] at hci
            rw [hai] at hIi
            have HAi := hide hai
            have cNB := hrB.2.2.1.cell 0
            have cp := HbB.out.cell 0
            have cf := HbB.out.cell 1
            simp only [List.getElem?_cons_zero, List.getElem?_cons_succ] at cNB cp cf
            obtain ⟨ll, hll⟩ : ∃ ll, next.getD pi [] = ll := ⟨_, rfl⟩
            rw [hll] at hci hIi
            have HLl : Hid (succL next (pi : Int) = ll) := hll
            obtain ⟨ln, hln⟩ : ∃ ln, ll.length = ln := ⟨_, rfl⟩
            have HLn := hide hln
            rw [hln] at hci hIi
            have hlnb : ln ≤ 17592186044416 := hIi.big
            have HIi := hide hIi
            have Hnx := hide hnx
            subst hnx
            have p0 : (0 : Int) ≤ (pi : Int) := by omega
            have p1 : (pi : Int) < (np : Int) := by omega
            clear hrB hcN hIi hll hln hai hcc
            gi_wp2
            clear cN cw hc0 hc1 cNB cp cf hci fw lw
            gi_loopw [49] (fun j wi => ∃ (q : Nat) (F2 zs2 : List (Int × Int)) (v2 : Value), q ≤ ln ∧ j = .int .i64 q ∧ Hid (adds o pi (ll.take q) F = F2) ∧ Hid (F2.drop (k2 + 1) = zs2) ∧ Hid (Ok np o F2) ∧ Hid (St s np T' v2 F2 zs2 wi) ∧ Hid (J (F.take k2 ++ [((pi : Int), xf)]) T' wi) ∧ Hid (Keeps (fun b => ¬ T' b ∧ s ≤ b) B wi) ∧ Hid (Blk wi b10 [.int .i64 (pi : Int), .int .i64 xf] 83) ∧ Hid (∀ b, v2.ownBlock = some b → b ≠ b10)) (fun j _ => ln - (intOf j).toNat)
            case atStart => exact ⟨0, F, zs, vN, by omega, rfl, rfl, HX.out.2.2, HOk.out, HStB.out, HJB.out, Keeps.refl _ _, HbB.out, fun b hb => by rw [HvB.out] at hb; cases hb; have := Hg10.out; omega⟩
            case round =>
              clear HStB HJB HbB
              obtain ⟨q, F2, zs2, v2, hq, rfl, HF2, HD2, HO2, HS2, HJ2, HK2, Hb2, Hn2⟩ := hrel
              have HKi : Hid (Keeps T0 W wr) := HKB.out.trans HK2.out (fun b hb h => by have := h.2; have := HMs.out; omega)
              have hF2n := HO2.out.few
              have hpre2 : F.length ≤ F2.length := by rw [← HF2.out]; exact (adds_pre o pi (ll.take q) F).length_le
              have HTi : Hid (∀ b, T' b → b < wr.heap.size) := fun b hb => Nat.lt_of_lt_of_le (HTB.out b hb).2.1 HK2.out.size
              have hrw := HR.out wr HKi.out
              have hIw : Ints wr ai ln ll := by
                obtain ⟨bM, oM, hnM, hbM, hcM⟩ := hrw.1.cell.resolve_left (by omega)
                have h := (hcM pi hpi).2
                rw [HAi.out] at h
                have e : next.getD pi [] = ll := HLl.out
                rw [e, HLn.out] at h
                exact h
              have cp := Hb2.out.cell 0
              have cf := Hb2.out.cell 1
              simp only [List.getElem?_cons_zero, List.getElem?_cons_succ] at cp cf
              by_cases hql : q < ln
              · obtain ⟨b1, o1, hai2, hb1, hc1⟩ := hIw.at (by omega)
                have cq := hc1 q hql
                obtain ⟨y, hyy⟩ : ∃ y, ll.getD q 0 = y := ⟨_, rfl⟩
                rw [hyy] at cq
                have hybd := HBd.out (pi : Int) ⟨by omega, by omega⟩ y (by rw [HLl.out, ← hyy, getD_num (by rw [HLn.out]; omega)]; exact List.getElem_mem _)
                obtain ⟨yi, rfl⟩ := Int.eq_ofNat_of_zero_le hybd.1
                have hyn : yi < np := by omega
                have HTk : Hid (ll.take (q + 1) = ll.take q ++ [(yi : Int)]) := take_snocI (by rw [HLn.out]; omega) hyy
                have hz2 : zs2.length ≤ 100000 := by rw [← HD2.out, List.length_drop]; omega
                have HC := hide (add_l np yi o pi (s + 1) s (Bn + 1) (s + 1 + 1) F2 zs2 v2 wr hyn hz2 HS2.out.bm HS2.out.m hrw.2.2.2.1 HS2.out.bw HS2.out.q)
                have z0 : (0 : Int) ≤ (q : Int) := by omega
                have z1 : (q : Int) < (ln : Int) := by omega
                subst hai2
                clear hc1 hyy hybd hIw hrw
                gi_wp2
                refine ⟨trivial, (callsIn_wide.2 HC.out).mono ?_⟩
                rintro e w2 hp
                obtain ⟨⟨r, rfl⟩, v', zs', hSt2, hF2, hown2, hk2⟩ := HS2.out.added HTi.out hp
                have HK2' := hide (HK2.out.then (hk2.weak (fun g _ h => HS2.out.owns h)))
                have HJ2' := hide (HAb.out _ _ _ _ HJ2.out (hk2.weak (fun g _ h => HS2.out.owns h)))
                have HF2' : Hid (adds o pi (ll.take (q + 1)) F = F2 ++ zs') := by
                  show _ = _
                  rw [HTk.out, adds_snoc, HF2.out, hF2]
                have HO2' : Hid (Ok np o (F2 ++ zs')) := by
                  rw [← hF2]
                  exact ok_add HO2.out ⟨by omega, by omega⟩
                have HS2' : Hid (St s np T' v' (F2 ++ zs') (zs2 ++ zs') w2) := by
                  show St _ _ _ _ _ _ _
                  rw [hF2] at hSt2
                  exact hSt2
                have HD2' : Hid ((F2 ++ zs').drop (k2 + 1) = zs2 ++ zs') := by
                  show _ = _
                  rw [List.drop_append_of_le_length (by omega), HD2.out]
                have Hb2' : Hid (Blk w2 b10 [.int .i64 (pi : Int), .int .i64 xf] 83) := Hb2.out.keeps hk2 (by
                  rintro (h | h | h)
                  · exact blk_ne Hb2.out HS2.out.m (by decide) h
                  · exact blk_ne Hb2.out HS2.out.bw (by decide) h
                  · exact Hn2.out _ h rfl)
                have Hn2' : Hid (∀ b, v'.ownBlock = some b → b ≠ b10) := fun b hb => by
                  rcases hown2 with h | ⟨g2, h, hg2⟩
                  · rw [h] at hb
                    exact Hn2.out b hb
                  · rw [h] at hb
                    cases hb
                    have := Hb2.out.lt
                    omega
                clear hp hSt2 hF2 hown2 hk2
                gi_wp2
                go_roundw
                case rel => exact ⟨q + 1, _, _, v', by omega, by go_num, HF2'.out, HD2'.out, HO2'.out, HS2'.out, HJ2'.out, HK2'.out, Hb2'.out, Hn2'.out⟩
                case measure => simp [intOf]; omega
              · have hqn : q = ln := by omega
                subst hqn
                have y9 : ¬ (q : Int) < (q : Int) := by omega
                obtain ⟨m', rfl⟩ : ∃ m', m = m' + 1 := ⟨m - 1, by have := HKm.out; omega⟩
                have hRm : RL m' wr := by
                  rw [HRL.out]
                  have hall : adds o (pi : Int) ll F = F2 := by rw [← HF2.out, List.take_of_length_le (by rw [HLn.out]; exact Nat.le_refl _)]
                  refine ⟨F2, k2 + 1, T', v2, by have := HKm.out; omega, by omega, HO2.out, ?_, by rw [HD2.out]; exact HS2.out, ?_, fun b hb => ⟨(HTB.out b hb).1, HTi.out b hb⟩, HKi.out⟩
                  · rw [← HBf.out, bfs_step _ _ _ _ _ _ HX.out.1, HLl.out, hall]
                  · have e : F2.take (k2 + 1) = F.take k2 ++ [((pi : Int), xf)] := by
                      rw [← HX.out.2.1]
                      obtain ⟨t, ht⟩ := adds_pre o pi ll F
                      rw [← hall, ← ht, List.take_append_of_le_length (by omega)]
                    rw [e]
                    exact HJ2.out
                have HRm := hide hRm
                have HLe : Hid (least RL wr ≤ m') := (least_of ⟨m', hRm⟩).2 m' hRm
                clear hRm hIw hrw cp cf
                gi_wp2
                go_roundw
                case rel => exact ⟨m', HRm.out⟩
                case measure =>
                  rw [HMe.out]
                  exact Nat.lt_succ_of_le HLe.out
          · have HQ0 : Hid (∀ w' : World, w'.heap[g]? = wr.heap[g]? → Que w' (.slice (some ⟨g, oq + 2, none⟩) zs.length (cap - 1)) zs) := fun w' hw => (HQn.out w' hw).2
            have HvB : Hid ((Value.slice (some ⟨g, oq + 2, none⟩) zs.length (cap - 1)).ownBlock = some g) := rfl
            obtain ⟨vN, hvN⟩ : ∃ vN, Value.slice (some ⟨g, oq + 2, none⟩) zs.length (cap - 1) = vN := ⟨_, rfl⟩
            rw [hvN] at HQ0 HvB ⊢
            clear hvN HQn
            obtain ⟨A, hA⟩ : ∃ A, (wr.setCell ⟨s + 1 + 1, 0, none⟩ vN).alloc (.cells #[.int .i64 (pi : Int), .int .i64 xf] 83) = A := ⟨_, rfl⟩
            have kA : Keeps (fun b => ¬ T b ∧ s ≤ b) wr A := by
              rw [← hA]
              exact ((Keeps.refl _ wr).set (.inl ⟨HSt2.out.t2, by omega⟩) _).alloc _
            have szA : A.heap.size = wr.heap.size + 1 := by rw [← hA]; simp [World.setCell]
            have HStA : Hid (St s np T vN F zs A) := by
              have h := HSt2.out
              have ng : g ≠ s + 1 + 1 := h.q.ne h.bw (by decide) g rfl
              refine ⟨?_, ?_, ?_, ?_, fun b hb => h.own b (by rw [HvB.out] at hb; exact hb), h.t0, h.t1, h.t2⟩
              · rw [← hA]; exact (h.bm.other (by show s + 1 ≠ s + 1 + 1; omega) _).alloc _
              · rw [← hA]; exact (h.m.other (by show s ≠ s + 1 + 1; omega) _).alloc _
              · rw [← hA]; exact (h.bw.store 0 vN).alloc _
              · refine HQ0.out A ?_
                rw [← hA]
                exact (Below.heap_alloc _ _ _ (by simpa [World.setCell] using hg)).trans (Below.heap_setCell _ _ _ _ ng)
            have HbA : Hid (Blk A wr.heap.size [.int .i64 (pi : Int), .int .i64 xf] 83) := by
              rw [← hA]
              exact Blk.newAt _ _ _ (by simp [World.setCell])
            have hJA := HAb.out _ _ _ _ HJ.out kA
            have HKA : Hid (Keeps T0 W A) := HK.out.trans kA (fun b hb h => by have := h.2; have := HMs.out; omega)
            have hpre : F.take k2 ++ [((pi : Int), xf)] <+: L := by
              rw [← HX.out.2.1, ← HBf.out]
              exact (List.take_prefix _ _).trans (bfs_pre _ _ _ _ _)
            have hYA := HY.out (F.take k2) ((pi : Int), xf) T A hpre hJA (fun b hb => by have := (HT.out b hb).2; omega)
            obtain ⟨fn, tmps, assign, body, hy, hRd⟩ := hYA
            dsimp only [encQ] at hy
            obtain ⟨b10, hb10⟩ : ∃ b, wr.heap.size = b := ⟨_, rfl⟩
            rw [hb10] at HbA szA
            try rw [hb10]
            rw [hA]
            have HT2 : Hid (∀ b, T b → (T0 b ∨ s ≤ b) ∧ b < b10) := by rw [← hb10]; exact HT.out
            have Hg10 : Hid (g < b10) := by show g < b10; omega
            clear hJA hA kA HQ0 hpre HJ
            rw [hy]
            gi_wp2
            refine hRd.mono ?_
            rintro e B ⟨rfl, T', hJB, hAB, hT'⟩
            have HStB := hide (HStA.out.of_eq hAB (fun b hb => (hT' b hb).1))
            have HbB := hide (HbA.out.keeps hAB (fun hb => by have := (HT2.out _ hb).2; omega))
            have HKB : Hid (Keeps T0 W B) := HKA.out.trans hAB (fun b hb h => by
              rcases (HT2.out b h).1 with h | h
              · exact h
              · have := HMs.out; omega)
            have HTB : Hid (∀ b, T' b → (T0 b ∨ s ≤ b) ∧ b < B.heap.size ∧ b ≠ b10) := fun b hb => by
              obtain ⟨h1, h2⟩ := hT' b hb
              have hsA := HStA.out.m.lt
              refine ⟨?_, h2, ?_⟩
              · rcases h1 with h1 | h1
                · exact (HT2.out b h1).1
                · exact .inr (by omega)
              · rcases h1 with h1 | h1
                · have := (HT2.out b h1).2; omega
                · omega
            have HJB := hide hJB
            clear hJB hAB hT' hy hRd
            have hrB := HR.out B HKB.out
            obtain ⟨bN, oN, hnx, hbN, hcN⟩ := hrB.1.cell.resolve_left (by omega)
            obtain ⟨hci, hIi⟩ := hcN pi hpi
            obtain ⟨ai, hai⟩ : ∃ ai, AA pi = ai := ⟨_, rfl⟩
            obtain ⟨ci, hcc⟩ : ∃ ci, CC pi = ci := ⟨_, rfl⟩
            rw [hai, hcc] at hci
            rw [hai] at hIi
            have HAi := hide hai
            have cNB := hrB.2.2.1.cell 0
            have cp := HbB.out.cell 0
            have cf := HbB.out.cell 1
            simp only [List.getElem?_cons_zero, List.getElem?_cons_succ] at cNB cp cf
            obtain ⟨ll, hll⟩ : ∃ ll, next.getD pi [] = ll := ⟨_, rfl⟩
            rw [hll] at hci hIi
            have HLl : Hid (succL next (pi : Int) = ll) := hll
            obtain ⟨ln, hln⟩ : ∃ ln, ll.length = ln := ⟨_, rfl⟩
            have HLn := hide hln
            rw [hln] at hci hIi
            have hlnb : ln ≤ 17592186044416 := hIi.big
            have HIi := hide hIi
            have Hnx := hide hnx
            subst hnx
            have p0 : (0 : Int) ≤ (pi : Int) := by omega
            have p1 : (pi : Int) < (np : Int) := by omega
            clear hrB hcN hIi hll hln hai hcc
            gi_wp2
            clear cN cw hc0 hc1 cNB cp cf hci fw lw
            gi_loopw [49] (fun j wi => ∃ (q : Nat) (F2 zs2 : List (Int × Int)) (v2 : Value), q ≤ ln ∧ j = .int .i64 q ∧ Hid (adds o pi (ll.take q) F = F2) ∧ Hid (F2.drop (k2 + 1) = zs2) ∧ Hid (Ok np o F2) ∧ Hid (St s np T' v2 F2 zs2 wi) ∧ Hid (J (F.take k2 ++ [((pi : Int), xf)]) T' wi) ∧ Hid (Keeps (fun b => ¬ T' b ∧ s ≤ b) B wi) ∧ Hid (Blk wi b10 [.int .i64 (pi : Int), .int .i64 xf] 83) ∧ Hid (∀ b, v2.ownBlock = some b → b ≠ b10)) (fun j _ => ln - (intOf j).toNat)
            case atStart => exact ⟨0, F, zs, vN, by omega, rfl, rfl, HX.out.2.2, HOk.out, HStB.out, HJB.out, Keeps.refl _ _, HbB.out, fun b hb => by rw [HvB.out] at hb; cases hb; have := Hg10.out; omega⟩
            case round =>
              clear HStB HJB HbB
              obtain ⟨q, F2, zs2, v2, hq, rfl, HF2, HD2, HO2, HS2, HJ2, HK2, Hb2, Hn2⟩ := hrel
              have HKi : Hid (Keeps T0 W wr) := HKB.out.trans HK2.out (fun b hb h => by have := h.2; have := HMs.out; omega)
              have hF2n := HO2.out.few
              have hpre2 : F.length ≤ F2.length := by rw [← HF2.out]; exact (adds_pre o pi (ll.take q) F).length_le
              have HTi : Hid (∀ b, T' b → b < wr.heap.size) := fun b hb => Nat.lt_of_lt_of_le (HTB.out b hb).2.1 HK2.out.size
              have hrw := HR.out wr HKi.out
              have hIw : Ints wr ai ln ll := by
                obtain ⟨bM, oM, hnM, hbM, hcM⟩ := hrw.1.cell.resolve_left (by omega)
                have h := (hcM pi hpi).2
                rw [HAi.out] at h
                have e : next.getD pi [] = ll := HLl.out
                rw [e, HLn.out] at h
                exact h
              have cp := Hb2.out.cell 0
              have cf := Hb2.out.cell 1
              simp only [List.getElem?_cons_zero, List.getElem?_cons_succ] at cp cf
              by_cases hql : q < ln
              · obtain ⟨b1, o1, hai2, hb1, hc1⟩ := hIw.at (by omega)
                have cq := hc1 q hql
                obtain ⟨y, hyy⟩ : ∃ y, ll.getD q 0 = y := ⟨_, rfl⟩
                rw [hyy] at cq
                have hybd := HBd.out (pi : Int) ⟨by omega, by omega⟩ y (by rw [HLl.out, ← hyy, getD_num (by rw [HLn.out]; omega)]; exact List.getElem_mem _)
                obtain ⟨yi, rfl⟩ := Int.eq_ofNat_of_zero_le hybd.1
                have hyn : yi < np := by omega
                have HTk : Hid (ll.take (q + 1) = ll.take q ++ [(yi : Int)]) := take_snocI (by rw [HLn.out]; omega) hyy
                have hz2 : zs2.length ≤ 100000 := by rw [← HD2.out, List.length_drop]; omega
                have HC := hide (add_l np yi o pi (s + 1) s (Bn + 1) (s + 1 + 1) F2 zs2 v2 wr hyn hz2 HS2.out.bm HS2.out.m hrw.2.2.2.1 HS2.out.bw HS2.out.q)
                have z0 : (0 : Int) ≤ (q : Int) := by omega
                have z1 : (q : Int) < (ln : Int) := by omega
                subst hai2
                clear hc1 hyy hybd hIw hrw
                gi_wp2
                refine ⟨trivial, (callsIn_wide.2 HC.out).mono ?_⟩
                rintro e w2 hp
                obtain ⟨⟨r, rfl⟩, v', zs', hSt2, hF2, hown2, hk2⟩ := HS2.out.added HTi.out hp
                have HK2' := hide (HK2.out.then (hk2.weak (fun g _ h => HS2.out.owns h)))
                have HJ2' := hide (HAb.out _ _ _ _ HJ2.out (hk2.weak (fun g _ h => HS2.out.owns h)))
                have HF2' : Hid (adds o pi (ll.take (q + 1)) F = F2 ++ zs') := by
                  show _ = _
                  rw [HTk.out, adds_snoc, HF2.out, hF2]
                have HO2' : Hid (Ok np o (F2 ++ zs')) := by
                  rw [← hF2]
                  exact ok_add HO2.out ⟨by omega, by omega⟩
                have HS2' : Hid (St s np T' v' (F2 ++ zs') (zs2 ++ zs') w2) := by
                  show St _ _ _ _ _ _ _
                  rw [hF2] at hSt2
                  exact hSt2
                have HD2' : Hid ((F2 ++ zs').drop (k2 + 1) = zs2 ++ zs') := by
                  show _ = _
                  rw [List.drop_append_of_le_length (by omega), HD2.out]
                have Hb2' : Hid (Blk w2 b10 [.int .i64 (pi : Int), .int .i64 xf] 83) := Hb2.out.keeps hk2 (by
                  rintro (h | h | h)
                  · exact blk_ne Hb2.out HS2.out.m (by decide) h
                  · exact blk_ne Hb2.out HS2.out.bw (by decide) h
                  · exact Hn2.out _ h rfl)
                have Hn2' : Hid (∀ b, v'.ownBlock = some b → b ≠ b10) := fun b hb => by
                  rcases hown2 with h | ⟨g2, h, hg2⟩
                  · rw [h] at hb
                    exact Hn2.out b hb
                  · rw [h] at hb
                    cases hb
                    have := Hb2.out.lt
                    omega
                clear hp hSt2 hF2 hown2 hk2
                gi_wp2
                go_roundw
                case rel => exact ⟨q + 1, _, _, v', by omega, by go_num, HF2'.out, HD2'.out, HO2'.out, HS2'.out, HJ2'.out, HK2'.out, Hb2'.out, Hn2'.out⟩
                case measure => simp [intOf]; omega
              · have hqn : q = ln := by omega
                subst hqn
                have y9 : ¬ (q : Int) < (q : Int) := by omega
                obtain ⟨m', rfl⟩ : ∃ m', m = m' + 1 := ⟨m - 1, by have := HKm.out; omega⟩
                have hRm : RL m' wr := by
                  rw [HRL.out]
                  have hall : adds o (pi : Int) ll F = F2 := by rw [← HF2.out, List.take_of_length_le (by rw [HLn.out]; exact Nat.le_refl _)]
                  refine ⟨F2, k2 + 1, T', v2, by have := HKm.out; omega, by omega, HO2.out, ?_, by rw [HD2.out]; exact HS2.out, ?_, fun b hb => ⟨(HTB.out b hb).1, HTi.out b hb⟩, HKi.out⟩
                  · rw [← HBf.out, bfs_step _ _ _ _ _ _ HX.out.1, HLl.out, hall]
                  · have e : F2.take (k2 + 1) = F.take k2 ++ [((pi : Int), xf)] := by
                      rw [← HX.out.2.1]
                      obtain ⟨t, ht⟩ := adds_pre o pi ll F
                      rw [← hall, ← ht, List.take_append_of_le_length (by omega)]
                    rw [e]
                    exact HJ2.out
                have HRm := hide hRm
                have HLe : Hid (least RL wr ≤ m') := (least_of ⟨m', hRm⟩).2 m' hRm
                clear hRm hIw hrw cp cf
                gi_wp2
                go_roundw
                case rel => exact ⟨m', HRm.out⟩
                case measure =>
                  rw [HMe.out]
                  exact Nat.lt_succ_of_le HLe.out
        · have hk2 : k2 = F.length := by omega
          have e1 : F.drop k2 = [] := by rw [hk2]; exact List.drop_length
          have e2 : F.take k2 = F := by rw [hk2]; exact List.take_length
          have e3 : L = F := by
            rw [← HBf.out, bfs_stop _ _ _ _ _ (by omega)]
          rw [e1] at hSt
          obtain ⟨av, cv, rfl⟩ := hSt.q.slice
          have HE : Hid (∃ T, J L T wr ∧ Keeps T0 W wr ∧ ∀ k, T k → (T0 k ∨ W.heap.size ≤ k) ∧ k < wr.heap.size) := ⟨T, by rw [e3]; rw [e2] at hJ; exact hJ, hK, fun g hg => by rw [HMs.out]; exact hT g hg⟩
          clear hSt hJ hT hK e1 e2 e3
          gi_wp2
          go_end0
          exact ⟨⟨_, rfl⟩, HE.out⟩
end Go.Proofs.Ythpdflpkkiabhaa
