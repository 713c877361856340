/-
  Walks over layer 7: Rings. No condition.
-/
import Derived.Test.YthpdflpkkiabhaaMs
namespace Go.Proofs.Ythpdflpkkiabhaa
open Go.RowKit Go.Shelf
attribute [local go_sem] onto_cell onto_frozen
attribute [local go_sem] Oper.semAt_some
set_option linter.unusedVariables false
def ringIn (T : List Int) (p : Int) (R : List Int) (L : List (Int × Int)) : List Int := L.foldl (fun R x => if x.1 ∈ T then R.set x.1.toNat (p + 1) else R) R
def ringTo (next : List (List Int)) (n : Nat) : Nat → List Int
  | 0 => List.replicate n 0
  | k + 1 => if 0 < (ringTo next n k).getD k 0 then ringTo next n k else ringIn ((foundL (succL next) (-1) n [(k : Int)]).map Prod.fst) k (ringTo next n k) (foundL (succL (backL next n)) (-1) n [(k : Int)])
/-- What Rings returns. -/
def ringsL (next : List (List Int)) (n : Nat) : List Int := numb [] (ringTo next n n)
theorem ringIn_snoc (T : List Int) (p : Int) (R : List Int) (L : List (Int × Int)) (x : Int × Int) : ringIn T p R (L ++ [x]) = if x.1 ∈ T then (ringIn T p R L).set x.1.toNat (p + 1) else ringIn T p R L := by
  unfold ringIn
  rw [List.foldl_append]
  rfl
theorem ringIn_length (T : List Int) (p : Int) (R : List Int) (L : List (Int × Int)) : (ringIn T p R L).length = R.length := by
  induction L using snoc_ind with
  | h0 => rfl
  | h1 L x ih =>
    rw [ringIn_snoc]
    split
    · rw [List.length_set, ih]
    · exact ih
theorem ringTo_length (next : List (List Int)) (n : Nat) : ∀ k, (ringTo next n k).length = n
  | 0 => by simp [ringTo]
  | k + 1 => by
    rw [ringTo]
    split
    · exact ringTo_length next n k
    · rw [ringIn_length, ringTo_length next n k]
theorem ringIn_bd (T : List Int) (p : Int) (R : List Int) (L : List (Int × Int)) (m : Int) (hp : 0 ≤ p ∧ p < m) (h : ∀ x ∈ R, 0 ≤ x ∧ x ≤ m) : ∀ x ∈ ringIn T p R L, 0 ≤ x ∧ x ≤ m := by
  induction L using snoc_ind with
  | h0 => exact h
  | h1 L y ih =>
    rw [ringIn_snoc]
    split
    · intro x hx
      rcases List.mem_or_eq_of_mem_set hx with h1 | rfl
      · exact ih x h1
      · omega
    · exact ih
theorem ringTo_bd (next : List (List Int)) (n : Nat) : ∀ k, ∀ x ∈ ringTo next n k, 0 ≤ x ∧ x ≤ (k : Int)
  | 0 => fun x hx => by rw [(List.mem_replicate.1 hx).2]; omega
  | k + 1 => fun x hx => by
    rw [ringTo] at hx
    split at hx
    · have := ringTo_bd next n k x hx; omega
    · exact ringIn_bd _ k _ _ ((k + 1 : Nat) : Int) (by omega) (fun y hy => by have := ringTo_bd next n k y hy; omega) x hx
theorem stepB_pts {p : Int} {m : Nat} (hp : 0 ≤ p ∧ p < m) {out : List (List Int)} (h : ∀ b, ∀ q ∈ out.getD b [], 0 ≤ q ∧ q < (m : Int)) (t : Int) : ∀ b, ∀ q ∈ (stepB p out t).getD b [], 0 ≤ q ∧ q < (m : Int) := by
  unfold stepB
  split
  · exact h
  · intro b q hq
    by_cases hl : t.toNat < out.length
    · rw [getD_set hl] at hq
      split at hq
      · rcases List.mem_append.1 hq with h1 | h1
        · exact h _ q h1
        · rw [List.mem_singleton.1 h1]; exact hp
      · exact h b q hq
    · rw [List.set_eq_of_length_le (by omega)] at hq
      exact h b q hq
theorem rowB_pts {p : Int} {m : Nat} (hp : 0 ≤ p ∧ p < m) : ∀ (l : List Int) (out : List (List Int)), (∀ b, ∀ q ∈ out.getD b [], 0 ≤ q ∧ q < (m : Int)) → ∀ b, ∀ q ∈ (rowB p out l).getD b [], 0 ≤ q ∧ q < (m : Int)
  | [], out, h => h
  | t :: l, out, h => rowB_pts hp l (stepB p out t) (stepB_pts hp h t)
theorem backTo_pts (next : List (List Int)) (n m : Nat) : ∀ k, k ≤ m → ∀ b, ∀ q ∈ (backTo next n k).getD b [], 0 ≤ q ∧ q < (m : Int)
  | 0, _ => fun b q hq => by
    rw [backTo, List.getD_eq_getElem?_getD, List.getElem?_replicate] at hq
    split at hq <;> simp at hq
  | k + 1, h => rowB_pts ⟨by omega, by omega⟩ _ _ (backTo_pts next n m k (by omega))
theorem back_succ {next : List (List Int)} {n : Nat} (h : next.length = n) : ∀ p, 0 ≤ p ∧ p < (n : Int) → ∀ q ∈ succL (backL next n) p, 0 ≤ q ∧ q < (n : Int) := fun p hp q hq =>
  backTo_pts next n n n (Nat.le_refl _) p.toNat q hq
set_option maxRecDepth 100000 in
set_option maxHeartbeats 4000000 in
theorem rings_yes (a : Option Addr) (n cap : Nat) (next : List (List Int)) (w : World) (h : Rows w a n next) (hc : checkB next = true) :
    Calls Try.prog 14 #[.slice a n cap] w fun e w' => ∃ v, e = .returned (.tuple #[v, .int .i64 0]) ∧ NewInts w w' v (ringsL next n) := by
  have hlen := h.len
  subst hlen
  have hck := checkB_iff.1 hc
  have hn := hck.1
  have HBk := hide (back_yes a next.length cap next w h hc)
  have HXn := hide h
  have HC := hide hc
  obtain ⟨n, hn2⟩ : ∃ n, next.length = n := ⟨_, rfl⟩
  have HN := hide hn2
  have hbl : (backL next n).length = n := backTo_length _ _ _
  have HBl := hide hbl
  rw [hn2] at HBk HXn hn ⊢
  clear h hc hck hn2 hbl
  refine (callsIn_wide (n := 5)).1 ?_
  refine callsIn_of_wp_marks Try.func14 rfl trivial ?_ rfl
  simp only [Try.ntmps14, List.size_toArray, List.length_cons, List.length_nil, Nat.reduceAdd, Nat.reduceSub, Array.replicate_succ, Array.replicate_zero, List.push_toArray, List.append_toArray, List.nil_append, List.cons_append]
  refine wpIn_wide.2 ?_
  go_wp2_with fail
  refine HBk.out.mono ?_
  rintro e w1 ⟨v, rfl, Bk, Sk, rfl, hBk, hRb, hk1⟩
  rw [HBl.out]
  have HRf : Hid (Rows w1 (some ⟨Bk, 0, none⟩) n (backL next n)) := by
    have h := hRb.rows (by rw [HBl.out]; omega) (fun i => by
      have h1 := backTo_short next n n (by have := HN.out; omega) i
      have h2 := total_take_le next n
      have h3 := (checkB_iff.1 HC.out).2.1
      show ((backTo next n n).getD i []).length ≤ _
      omega)
    rw [HBl.out] at h
    exact h
  have hms := make25 w1 n (by omega)
  obtain ⟨M, hM⟩ : ∃ M, w1.heap.size = M := ⟨_, rfl⟩
  have HMs := hide hM
  have HK1 := hide hk1
  have HRb := hide hRb
  have HM0 : Hid (Blk ((w1.alloc (.cells (Array.replicate n (.int .i64 0)) 3)).alloc (.cells #[.slice (some ⟨M, 0, none⟩) n n] 25)) M ((ringTo next n 0).map (Value.int .i64)) 3) := by
    have e : (ringTo next n 0).map (Value.int .i64) = List.replicate n (.int .i64 0) := by simp [ringTo]
    rw [e, ← List.toArray_replicate]
    exact (Blk.newAt w1 (List.replicate n (.int .i64 0)) 3 hM.symm).alloc _
  have HX0 : Hid (Blk ((w1.alloc (.cells (Array.replicate n (.int .i64 0)) 3)).alloc (.cells #[.slice (some ⟨M, 0, none⟩) n n] 25)) (M + 1) [.slice (some ⟨M, 0, none⟩) n n] 25) := Blk.newAt _ [.slice (some ⟨M, 0, none⟩) n n] 25 (by simp [hM])
  have HK0 := hide (((Keeps.refl Non w1).alloc (.cells (Array.replicate n (.int .i64 0)) 3)).alloc (.cells #[.slice (some ⟨M, 0, none⟩) n n] 25))
  rw [hM] at hms
  have hwM : w.heap.size ≤ M := by rw [← hM]; exact hk1.size
  clear hk1 hRb
  go_wp2_with fail
  obtain ⟨W1, hW1⟩ : ∃ W1, (w1.alloc (.cells (Array.replicate n (.int .i64 0)) 3)).alloc (.cells #[.slice (some ⟨M, 0, none⟩) n n] 25) = W1 := ⟨_, rfl⟩
  rw [hW1] at HM0 HX0 HK0
  try rw [hW1]
  try rw [hM]
  clear hms hW1 hM
  obtain ⟨Iv, hIv⟩ : ∃ Iv : Act → World → Prop, Iv = fun a' wr => ∃ (k : Nat) (u7 u8 u9 u10 u25 u26 u27 u28 u29 u30 u31 u32 u33 u34 u35 u36 u37 u38 u39 u40 u41 u42 u43 u44 u45 u46 u47 u48 u49 u50 u51 u52 u53 u54 u55 u56 u57 u58 u59 : Value) (ds : List Deferred), a' = { tmps := #[.slice a n cap, undef, .slice none 0 0, .int .i64 0, .slice (some ⟨Bk, 0, none⟩) n n, .int .i64 0, .pointer (some ⟨M + 1, 0, none⟩), u7, u8, u9, u10, .tuple #[.slice (some ⟨Bk, 0, none⟩) n n, .int .i64 0], .slice a n cap, .tuple #[.slice (some ⟨Bk, 0, none⟩) n n, .int .i64 0], .slice (some ⟨Bk, 0, none⟩) n n, .int .i64 0, .int .i64 0, .bool false, undef, .slice a n cap, .int .i64 n, .slice (some ⟨M, 0, none⟩) n n, .slice a n cap, .int .i64 n, .int .i64 k, u25, u26, u27, u28, u29, u30, u31, u32, u33, u34, u35, u36, u37, u38, u39, u40, u41, u42, u43, u44, u45, u46, u47, u48, u49, u50, u51, u52, u53, u54, u55, u56, u57, u58, u59, undef, undef, undef, undef], defers := ds } ∧ k ≤ n ∧ Hid (Blk wr M ((ringTo next n k).map (Value.int .i64)) 3) ∧ Hid (Blk wr (M + 1) [.slice (some ⟨M, 0, none⟩) n n] 25) ∧ Hid (Marks M ds wr) ∧ Hid (Keeps Non w1 wr) := ⟨_, rfl⟩
  have HIv := hide hIv
  refine wp_loop Iv (fun a' _ => n - (intOf (a'.tmps.getD 24 undef)).toNat) ?start ?round
  case start =>
    rw [hIv]
    exact ⟨0, _, _, _, _, _, _, _, _, _, _, _, _, _, _, _, _, _, _, _, _, _, _, _, _, _, _, _, _, _, _, _, _, _, _, _, _, _, _, _, [], rfl, by omega, HM0.out, HX0.out, Marks.nil _ _, HK0.out⟩
  case round =>
    clear HM0 HX0 HK0
    intro a' wr hI
    rw [hIv] at hI
    clear hIv
    obtain ⟨k, u7, u8, u9, u10, u25, u26, u27, u28, u29, u30, u31, u32, u33, u34, u35, u36, u37, u38, u39, u40, u41, u42, u43, u44, u45, u46, u47, u48, u49, u50, u51, u52, u53, u54, u55, u56, u57, u58, u59, ds, rfl, hk, HM, HX, HMk, HK⟩ := hI
    have cx := HX.out.cell 0
    simp only [List.getElem?_cons_zero] at cx
    have lM := HM.out.lt
    have lX := HX.out.lt
    by_cases hlt : k < n
    · have hRl : (ringTo next n k).length = n := ringTo_length _ _ _
      obtain ⟨y, hy⟩ : ∃ y, (ringTo next n k).getD k 0 = y := ⟨_, rfl⟩
      have cm : wr.cell? ⟨M, k, none⟩ = some (.int .i64 y) := by
        rw [HM.out.cell, List.getElem?_map, List.getElem?_eq_getElem (by omega), ← hy, getD_num (by omega)]
        rfl
      have z0 : (0 : Int) ≤ (k : Int) := by omega
      have z1 : (k : Int) < (n : Int) := by omega
      by_cases hy0 : 0 < y
      · have HS : Hid (ringTo next n (k + 1) = ringTo next n k) := by
          show _ = _
          rw [ringTo, if_pos (by rw [hy]; exact hy0)]
        clear hy hRl
        go_wp2_with fail
        rw [HIv.out]
        rw [show ((k : Int) + 1) = ((k + 1 : Nat) : Int) from rfl]
        refine ⟨⟨k + 1, _, _, _, _, _, _, _, _, _, _, _, _, _, _, _, _, _, _, _, _, _, _, _, _, _, _, _, _, _, _, _, _, _, _, _, _, _, _, _, ds, rfl, by omega, ?_, HX.out.alloc _, HMk.out.non ((Keeps.refl _ _).alloc _), HK.out.alloc _⟩, by simp [intOf]; omega⟩
        rw [HS.out]
        exact HM.out.alloc _
      · have HS : Hid (ringTo next n (k + 1) = ringIn ((foundL (succL next) (-1) n [(k : Int)]).map Prod.fst) k (ringTo next n k) (foundL (succL (backL next n)) (-1) n [(k : Int)])) := by
          show _ = _
          rw [ringTo, if_neg (by rw [hy]; exact hy0)]
        have hyf : ¬ (0 : Int) < y := hy0
        obtain ⟨P, hP⟩ : ∃ P, wr.heap.size = P := ⟨_, rfl⟩
        have hms2 := make64 (wr.alloc (.cells #[.int .i64 (k : Int)] 3)) n (by omega)
        rw [World.size_alloc, hP] at hms2
        rw [hP] at lX lM
        obtain ⟨L1, hL1⟩ : ∃ L1, foundL (succL next) (-1) n [(k : Int)] = L1 := ⟨_, rfl⟩
        obtain ⟨L2, hL2⟩ : ∃ L2, foundL (succL (backL next n)) (-1) n [(k : Int)] = L2 := ⟨_, rfl⟩
        rw [hL1, hL2] at HS
        have HL1 := hide hL1
        have HL2 := hide hL2
        obtain ⟨R, hR⟩ : ∃ R, ringTo next n k = R := ⟨_, rfl⟩
        rw [hR] at HM HS hRl
        have hk1 : ∀ x ∈ [(k : Int)], 0 ≤ x ∧ x < (n : Int) := fun x hx => by rw [List.mem_singleton.1 hx]; omega
        have HK1' := hide hk1
        have HLn : Hid (L1.length ≤ n ∧ ∀ x ∈ L1, (0 ≤ x.1 ∧ x.1 < (n : Int)) ∧ 0 ≤ x.2 ∧ x.2 < (n : Int)) := by
          have h1 := found_len (-1) HC.out (l := [(k : Int)]) (by rw [HN.out]; exact hk1)
          have h2 := found_bd (-1) HC.out (l := [(k : Int)]) (by rw [HN.out]; exact hk1)
          rw [HN.out, hL1] at h1 h2
          exact ⟨h1, h2⟩
        have HLm : Hid (L2.length ≤ n ∧ ∀ x ∈ L2, 0 ≤ x.1 ∧ x.1 < (n : Int)) := by
          have h1 := (found_rec (o := -1) (back_succ (n := n) HN.out) hk1 (fun _ _ => True) trivial (fun _ _ _ _ _ _ => trivial)).1
          rw [hL2] at h1
          exact ⟨h1.few, h1.pt⟩
        clear hL1 hL2 hR hk1 hy hy0
        go_wp2_with fail
        refine (found_any _ _ _ _ _ _ _ _).mono ?_
        rintro e w2 ⟨rfl, rfl⟩
        go_wp2_with fail
        obtain ⟨W0, hW0⟩ : ∃ W0, ((((((wr.alloc (.cells #[.int .i64 (k : Int)] 3)).alloc (.cells (metL n []).toArray 4)).alloc (.cells #[.slice (some ⟨P + 1, 0, none⟩) n n] 64)).alloc (.cells #[.int .i64 (k : Int)] 3)).alloc (.cells #[.slice a n cap] 23)).alloc (.cells #[.int .i64 (-1)] 3)).alloc (.cells #[.slice (some ⟨P + 1 + 1 + 1, 0, none⟩) 1 1] 25) = W0 := ⟨_, rfl⟩
        rw [hW0]
        have hkr : Keeps Non wr W0 := by rw [← hW0]; exact (((((((Keeps.refl _ wr).alloc _).alloc _).alloc _).alloc _).alloc _).alloc _).alloc _
        have szW : W0.heap.size = P + 7 := by rw [← hW0, ← hP]; simp
        have bP : Blk W0 P [.int .i64 (k : Int)] 3 := by rw [← hW0]; exact ((((((Blk.newAt _ [.int .i64 (k : Int)] 3 (by simp [hP])).alloc _).alloc _).alloc _).alloc _).alloc _).alloc _
        have bT : Blk W0 (P + 1) (metL n []) 4 := by rw [← hW0]; exact (((((Blk.newAt _ (metL n []) 4 (by simp [hP])).alloc _).alloc _).alloc _).alloc _).alloc _
        have bX : Blk W0 (P + 1 + 1) [.slice (some ⟨P + 1, 0, none⟩) n n] 64 := by rw [← hW0]; exact ((((Blk.newAt _ [.slice (some ⟨P + 1, 0, none⟩) n n] 64 (by simp [hP])).alloc _).alloc _).alloc _).alloc _
        have b0 : Blk W0 (P + 1 + 1 + 1) [.int .i64 (k : Int)] 3 := by rw [← hW0]; exact (((Blk.newAt _ [.int .i64 (k : Int)] 3 (by simp [hP])).alloc _).alloc _).alloc _
        have b1 : Blk W0 (P + 1 + 1 + 1 + 1) [.slice a n cap] 23 := by rw [← hW0]; exact ((Blk.newAt _ [.slice a n cap] 23 (by simp [hP])).alloc _).alloc _
        have b2 : Blk W0 (P + 1 + 1 + 1 + 1 + 1) [.int .i64 (-1)] 3 := by rw [← hW0]; exact (Blk.newAt _ [.int .i64 (-1)] 3 (by simp [hP])).alloc _
        have b3 : Blk W0 (P + 1 + 1 + 1 + 1 + 2) [.slice (some ⟨P + 1 + 1 + 1, 0, none⟩) 1 1] 25 := by rw [← hW0]; exact Blk.newAt _ [.slice (some ⟨P + 1 + 1 + 1, 0, none⟩) 1 1] 25 (by simp [hP])
        have hMP : M + 1 < P := lX
        have hk1W : Keeps Non w1 W0 := HK.out.then hkr
        have hkW : Keeps Non w W0 := HK1.out.then hk1W
        obtain ⟨AA, CC, hF⟩ := HXn.out.fixed
        have hH : Hands 4 65 #[.pointer (some ⟨P + 1 + 1 + 1 + 1, 0, none⟩), .pointer (some ⟨P + 1 + 1 + 1 + 1 + 1, 0, none⟩), .pointer (some ⟨P + 1 + 1 + 1 + 1 + 2, 0, none⟩)] encQ (fun j => j = P + 1) L1 W0 := by
          rw [← HL1.out]
          have e := checkB_succ HC.out
          rw [HN.out] at e
          exact found_hands 4 (by omega) a n cap (some ⟨P + 1 + 1 + 1, 0, none⟩) 1 1 next [(k : Int)] (-1) (fun j => j = P + 1) W0 (P + 1 + 1 + 1 + 1) AA CC b1 b2 b3 (by omega) (by omega) (by omega)
            (fun W hkk => ⟨hF.non (hkW.trans hkk (fun i hi h => by subst h; have := hk1W.size; have := HK1.out.size; have := HK.out.size; omega)), ints_of_blk (xs := [(k : Int)]) (b0.keeps hkk (by omega)) (by simp)⟩) (by omega) (by omega) e HK1'.out
        have HH := hide hH
        have HbP := hide bP
        have HbX := hide bX
        have HbT := hide bT
        have HM0 := hide (HM.out.non hkr)
        have HX0 := hide (HX.out.non hkr)
        have HMk0 := hide (HMk.out.non hkr)
        have HkW1 := hide hk1W
        have HMP := hide hMP
        have HszW := hide szW
        clear hW0 hH hF bP bX b0 b1 b2 b3 hk1W hkW hkr hms2 cm cx lM lX HM HX HMk HK hMP
        refine (wpIn_wide (n := 5)).1 ?_
        refine wpIn_hands (n := 5) (by omega) (gf := 65) rfl ent65 HH.out (fun _ => rfl) (fun pre S W => (∀ j, S j ↔ j = P + 1) ∧ Blk W (P + 1) (metL n pre) 4) (fun j hj => by have := HszW.out; omega) (fun pre S A B' h kk => ⟨h.1, h.2.keeps kk (fun hh => hh.1 ((h.1 (P + 1)).2 rfl))⟩) ⟨fun j => Iff.rfl, bT⟩ ?a1 ?assign1 ?body1 ?done1
        case assign1 =>
          intro l x W K hK
          unfold encQ
          gi_wp2
          exact hK
        case body1 =>
          rintro l pre x S A hpre ⟨hSM, hM⟩ hS hkA
          have cx := (HbX.out.keeps hkA (by omega)).cell 0
          simp only [List.getElem?_cons_zero] at cx
          have lx := (HbX.out.keeps hkA (by omega)).lt
          obtain ⟨⟨xp, xf⟩, rfl⟩ : ∃ y, y = x := ⟨_, rfl⟩
          have hxm : (xp, xf) ∈ L1 := by
            obtain ⟨t, ht⟩ := hpre
            rw [← ht]
            simp
          have hb := (HLn.out.2 _ hxm).1
          simp only at hb
          obtain ⟨pi, rfl⟩ := Int.eq_ofNat_of_zero_le hb.1
          have hpi : pi < n := by omega
          have cp := hM.cell pi
          rw [metL_at pre hpi] at cp
          have fm := hM.free pi none
          have lm := hM.lt
          have p0 : (0 : Int) ≤ (pi : Int) := by omega
          have p1 : (pi : Int) < (n : Int) := by omega
          have HE : Hid (Blk (A.setCell ⟨P + 1, pi, none⟩ (.bool true)) (P + 1) (metL n (pre ++ [((pi : Int), xf)])) 4) := by
            have h1 := hM.store pi (.bool true)
            rw [metL_set pre hpi xf] at h1
            exact h1
          have HPo : Hid (HPost (fun pre S W => (∀ (j : Nat), S j ↔ j = P + 1) ∧ Blk W (P + 1) (metL n pre) 4) (pre ++ [((pi : Int), xf)]) S A .normal { tmps := #[], defers := [] } (A.setCell ⟨P + 1, pi, none⟩ (.bool true))) := by
            refine ⟨S, ⟨hSM, HE.out⟩, (Keeps.refl S A).set (.inl ((hSM (P + 1)).2 rfl)) _, fun j hj => ⟨.inl hj, ?_⟩⟩
            rw [(hSM j).1 hj]
            exact HE.out.lt
          clear hM hpre hS hkA hxm hb hSM
          gi_wp2
          exact HPo.out
        case done1 =>
          rintro D S W hD ⟨hSM, hT⟩ hkW2 hS hK
          have hTn : ∀ i, i = P + 1 → ∀ o, W0.heap[i]? ≠ some (Obj.deferred o) := fun i hi o => by rw [hi]; exact blk_no_mark HbT.out o
          have HMk1 := hide (HMk0.out.cons (HMk0.out.keeps hkW2 hTn) (by have := HszW.out; have := HMP.out; omega) hD hK)
          have HT := hide hT
          have HbP1 := hide (HbP.out.keeps hkW2 (by omega))
          have HbX1 := hide (HbX.out.keeps hkW2 (by omega))
          have HM1 := hide (HM0.out.keeps hkW2 (by have := HMP.out; omega))
          have HX1 := hide (HX0.out.keeps hkW2 (by have := HMP.out; omega))
          have HkW1' : Hid (Keeps Non w1 W) := HkW1.out.trans hkW2 (fun i hi h => by subst h; have := HMs.out; have := HMP.out; omega)
          have hP7 : P + 7 ≤ W.heap.size := by have := hkW2.size; have := HszW.out; omega
          have c7 := HbP1.out.cell 0
          simp only [List.getElem?_cons_zero] at c7
          have l7 := HbP1.out.lt
          clear hkW2 hS hK hSM hT hTn HM0 HX0 HbP HbX HkW1 HMk0 HbT
          go_wp2_with fail
          refine (found_any _ _ _ _ _ _ _ _).mono ?_
          rintro e w2 ⟨rfl, rfl⟩
          go_wp2_with fail
          obtain ⟨Q, hQ⟩ : ∃ Q, W.heap.size = Q := ⟨_, rfl⟩
          obtain ⟨V0, hV0⟩ : ∃ V0, (((W.alloc (.cells #[.int .i64 (k : Int)] 3)).alloc (.cells #[.slice (some ⟨Bk, 0, none⟩) n n] 23)).alloc (.cells #[.int .i64 (-1)] 3)).alloc (.cells #[.slice (some ⟨W.heap.size, 0, none⟩) 1 1] 25) = V0 := ⟨_, rfl⟩
          rw [hV0]
          have hkr : Keeps Non W V0 := by rw [← hV0]; exact ((((Keeps.refl _ W).alloc _).alloc _).alloc _).alloc _
          have szV : V0.heap.size = Q + 4 := by rw [← hV0, ← hQ]; simp
          have b0 : Blk V0 Q [.int .i64 (k : Int)] 3 := by rw [← hV0]; exact (((Blk.newAt _ [.int .i64 (k : Int)] 3 (by simp [hQ])).alloc _).alloc _).alloc _
          have b1 : Blk V0 (Q + 1) [.slice (some ⟨Bk, 0, none⟩) n n] 23 := by rw [← hV0]; exact ((Blk.newAt _ [.slice (some ⟨Bk, 0, none⟩) n n] 23 (by simp [hQ])).alloc _).alloc _
          have b2 : Blk V0 (Q + 1 + 1) [.int .i64 (-1)] 3 := by rw [← hV0]; exact (Blk.newAt _ [.int .i64 (-1)] 3 (by simp [hQ])).alloc _
          have b3 : Blk V0 (Q + 1 + 2) [.slice (some ⟨Q, 0, none⟩) 1 1] 25 := by rw [← hV0, ← hQ]; exact Blk.newAt _ [.slice (some ⟨W.heap.size, 0, none⟩) 1 1] 25 (by simp)
          have hk1W : Keeps Non w1 V0 := HkW1'.out.then hkr
          obtain ⟨AA2, CC2, hF2⟩ := HRf.out.fixed
          have hH : Hands 4 65 #[.pointer (some ⟨Q + 1, 0, none⟩), .pointer (some ⟨Q + 1 + 1, 0, none⟩), .pointer (some ⟨Q + 1 + 2, 0, none⟩)] encQ (fun j => j = M) L2 V0 := by
            rw [← HL2.out]
            exact found_hands 4 (by omega) (some ⟨Bk, 0, none⟩) n n (some ⟨Q, 0, none⟩) 1 1 (backL next n) [(k : Int)] (-1) (fun j => j = M) V0 (Q + 1) AA2 CC2 b1 b2 b3 (by have := HMP.out; omega) (by have := HMP.out; omega) (by have := HMP.out; omega)
              (fun W' hkk => ⟨hF2.non (hk1W.trans hkk (fun i hi h => by subst h; have := HMs.out; omega)), ints_of_blk (xs := [(k : Int)]) (b0.keeps hkk (by have := HMP.out; omega)) (by simp)⟩) (by omega) (by omega) (back_succ HN.out) HK1'.out
          have HH2 := hide hH
          have HM2 := hide (HM1.out.non hkr)
          have HX2 := hide (HX1.out.non hkr)
          have HT2 := hide (HT.out.non hkr)
          have HbP2 := hide (HbP1.out.non hkr)
          have HbX2 := hide (HbX1.out.non hkr)
          have HMk2 := hide (HMk1.out.non hkr)
          have HkV := hide hk1W
          have HszV := hide szV
          rw [hQ]
          clear hV0 hH hF2 b0 b1 b2 b3 hk1W hkr HM1 HX1 HT HbP1 HbX1 HMk1 HkW1' c7 l7
          obtain ⟨TT, hTT⟩ : ∃ TT, L1.map Prod.fst = TT := ⟨_, rfl⟩
          rw [hTT] at HS
          have HTT := hide hTT
          clear hTT
          refine (wpIn_wide (n := 5)).1 ?_
          refine wpIn_hands (n := 5) (by omega) (gf := 65) rfl ent65 HH2.out (fun _ => rfl) (fun pre S W => (∀ j, S j ↔ j = M) ∧ Blk W M ((ringIn TT k R pre).map (Value.int .i64)) 3) (fun j hj => by have := HszV.out; have := HMP.out; omega) (fun pre S A B' h kk => ⟨h.1, h.2.keeps kk (fun hh => hh.1 ((h.1 M).2 rfl))⟩) ⟨fun j => Iff.rfl, HM2.out⟩ ?a2 ?assign2 ?body2 ?done2
          case assign2 =>
            intro l x W K hK
            unfold encQ
            gi_wp2
            exact hK
          case body2 =>
            rintro l pre x S A hpre ⟨hSM, hM⟩ hS hkA
            have hMP := HMP.out
            have cx := (HbX2.out.keeps hkA (by omega)).cell 0
            have lx := (HbX2.out.keeps hkA (by omega)).lt
            have cP := (HbP2.out.keeps hkA (by omega)).cell 0
            have lP := (HbP2.out.keeps hkA (by omega)).lt
            have cR := (HX2.out.keeps hkA (by omega)).cell 0
            have lR := (HX2.out.keeps hkA (by omega)).lt
            simp only [List.getElem?_cons_zero] at cx cP cR
            obtain ⟨⟨xp, xf⟩, rfl⟩ : ∃ y, y = x := ⟨_, rfl⟩
            have hxm : (xp, xf) ∈ L2 := by
              obtain ⟨t, ht⟩ := hpre
              rw [← ht]
              simp
            have hb := HLm.out.2 _ hxm
            simp only at hb
            obtain ⟨pi, rfl⟩ := Int.eq_ofNat_of_zero_le hb.1
            have hpi : pi < n := by omega
            have cp := (HT2.out.keeps hkA (by omega)).cell pi
            rw [metL_at L1 hpi, HTT.out] at cp
            have hsn := ringIn_snoc TT k R pre ((pi : Int), xf)
            simp only [Int.toNat_natCast] at hsn
            have p0 : (0 : Int) ≤ (pi : Int) := by omega
            have p1 : (pi : Int) < (n : Int) := by omega
            by_cases hin : (pi : Int) ∈ TT
            · rw [decide_eq_true hin] at cp
              rw [if_pos hin] at hsn
              have hrl : (ringIn TT k R pre).length = n := by rw [ringIn_length]; exact hRl
              have cm : A.cell? ⟨M, pi, none⟩ = some (.int .i64 ((ringIn TT k R pre).getD pi 0)) := by
                rw [hM.cell, List.getElem?_map, List.getElem?_eq_getElem (by omega), getD_num (by omega)]
                rfl
              have fm := hM.free pi none
              have lm := hM.lt
              have HE : Hid (Blk (A.setCell ⟨M, pi, none⟩ (.int .i64 ((k : Int) + 1))) M ((ringIn TT k R (pre ++ [((pi : Int), xf)])).map (Value.int .i64)) 3) := by
                have h1 := hM.store pi (.int .i64 ((k : Int) + 1))
                rw [hsn, List.map_set]
                exact h1
              have HPo : Hid (HPost (fun pre S W => (∀ (j : Nat), S j ↔ j = M) ∧ Blk W M ((ringIn TT k R pre).map (Value.int .i64)) 3) (pre ++ [((pi : Int), xf)]) S A .normal { tmps := #[], defers := [] } (A.setCell ⟨M, pi, none⟩ (.int .i64 ((k : Int) + 1)))) := by
                refine ⟨S, ⟨hSM, HE.out⟩, (Keeps.refl S A).set (.inl ((hSM M).2 rfl)) _, fun j hj => ⟨.inl hj, ?_⟩⟩
                rw [(hSM j).1 hj]
                exact HE.out.lt
              clear hM hpre hS hkA hxm hb hSM hsn hin hrl
              gi_wp2
              exact HPo.out
            · rw [decide_eq_false hin] at cp
              rw [if_neg hin] at hsn
              have HPo : Hid (HPost (fun pre S W => (∀ (j : Nat), S j ↔ j = M) ∧ Blk W M ((ringIn TT k R pre).map (Value.int .i64)) 3) (pre ++ [((pi : Int), xf)]) S A .normal { tmps := #[], defers := [] } A) := by
                refine ⟨S, ⟨hSM, by rw [hsn]; exact hM⟩, Keeps.refl S A, fun j hj => ⟨.inl hj, ?_⟩⟩
                rw [(hSM j).1 hj]
                exact hM.lt
              clear hM hpre hS hkA hxm hb hSM hsn hin
              gi_wp2
              exact HPo.out
          case done2 =>
            rintro D2 S2 V hD2 ⟨hSM2, hR2⟩ hkV2 hS2 hK2
            have hMn : ∀ i, i = M → ∀ o, V0.heap[i]? ≠ some (Obj.deferred o) := fun i hi o => by rw [hi]; exact blk_no_mark HM2.out o
            have HMk3 := hide (HMk2.out.cons (HMk2.out.keeps hkV2 hMn) (by have := HszV.out; have := HMP.out; omega) hD2 hK2)
            have HM3 : Hid (Blk V M ((ringTo next n (k + 1)).map (Value.int .i64)) 3) := by
              rw [HS.out]
              exact hR2
            have HX3 := hide (HX2.out.keeps hkV2 (by omega))
            have HK3 : Hid (Keeps Non w1 V) := HkV.out.trans hkV2 (fun i hi h => by subst h; have := HMs.out; omega)
            clear hSM2 hR2 hkV2 hS2 hK2 hMn
            go_wp2_with fail
            rw [HIv.out]
            rw [show ((k : Int) + 1) = ((k + 1 : Nat) : Int) from rfl]
            exact ⟨⟨k + 1, _, _, _, _, _, _, _, _, _, _, _, _, _, _, _, _, _, _, _, _, _, _, _, _, _, _, _, _, _, _, _, _, _, _, _, _, _, _, _, _, rfl, by omega, HM3.out, HX3.out, HMk3.out, HK3.out⟩, by simp [intOf]; omega⟩
    · have hkn : k = n := by omega
      subst hkn
      have y9 : ¬ (k : Int) < (k : Int) := by omega
      have hR := ringTo_bd next k k
      have hRl : (ringTo next k k).length = k := ringTo_length _ _ _
      have hI := ints_of_blk HM.out (by omega)
      rw [hRl] at hI
      have HO := hide (ofInt_l (some ⟨M, 0, none⟩) k k (ringTo next k k) wr hI (by omega) (fun x hx => wf_of (by have := hR x hx; omega) (by have := hR x hx; omega)))
      clear hR hI hRl
      go_wp2_with fail
      refine HO.out.mono ?_
      rintro e w2 ⟨v, rfl, bo, rfl, hbo, hBo, hko⟩
      have HE : Hid (∀ w', Keeps (fun j => M ≤ j) w2 w' → (∀ j : Nat, (∀ o : Option (List Deferred), w2.heap[j]? ≠ some (Obj.deferred o)) → w'.heap[j]? = w2.heap[j]?) → NewInts w w' (.slice (some ⟨bo, 0, none⟩) (ringsL next k).length (ringsL next k).length) (ringsL next k)) := fun w' hkk hs => by
        refine ⟨bo, rfl, by have := HK1.out.size; have := HK.out.size; omega, hBo.of_eq (hs bo (fun o => blk_no_mark hBo o)), ?_⟩
        exact ((HK1.out.then HK.out).then hko).trans hkk (fun i hi h => by omega)
      have HMk2 := hide (HMk.out.non hko)
      clear hbo hBo hko HO
      go_wp2_with fail
      refine leaves_marks ds M _ HMk2.out (fun w' hkk hs => ?_)
      exact ⟨_, by simp [results, Try.results14, go_sem, ringsL], _, rfl, HE.out w' hkk hs⟩
theorem rings_no (a : Option Addr) (n cap : Nat) (next : List (List Int)) (w : World) (h : Rows w a n next) (hc : ¬ checkB next = true) :
    Calls Try.prog 14 #[.slice a n cap] w fun e w' => e = .returned (.tuple #[.slice none 0 0, .int .i64 70]) ∧ Keeps Non w w' := by
  have HW := hide (back_no a n cap next w h hc)
  clear h hc
  go_enter Try.func14, Try.ntmps14
  go_wp2_with fail
  refine HW.out.mono ?_
  rintro e w3 ⟨rfl, hk⟩
  go_wp2_with fail
  go_ret2
  exact ⟨rfl, hk⟩
end Go.Proofs.Ythpdflpkkiabhaa
