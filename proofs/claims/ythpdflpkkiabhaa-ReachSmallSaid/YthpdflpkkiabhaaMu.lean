/-
  Walks over layer 7: Musts. No condition.
-/
import Derived.Test.YthpdflpkkiabhaaRi
namespace Go.Proofs.Ythpdflpkkiabhaa
open Go.RowKit Go.Shelf
attribute [local go_sem] onto_cell onto_frozen
attribute [local go_sem] Oper.semAt_some
set_option linter.unusedVariables false
def stepM (St : List Int) (k : Int) (o : List (List Int)) (p : Int) : List (List Int) := if p ∈ St then o else o.set p.toNat (o.getD p.toNat [] ++ [k])
def mustRow (St : List Int) (k : Int) (o : List (List Int)) (l : List Int) : List (List Int) := l.foldl (stepM St k) o
def mustTo (next : List (List Int)) (n : Nat) (s : Int) : Nat → List (List Int)
  | 0 => List.replicate n []
  | k + 1 => if (k : Int) ∈ fromL next n s then mustRow ((foundL (succL next) k n [s]).map Prod.fst) k (mustTo next n s k) (fromL next n s) else mustTo next n s k
/-- What Musts returns. -/
def mustsL (next : List (List Int)) (n : Nat) (s : Int) : List (List Int) := mustTo next n s n
theorem stepM_length (St : List Int) (k : Int) (o : List (List Int)) (p : Int) : (stepM St k o p).length = o.length := by
  unfold stepM
  split
  · rfl
  · simp
theorem mustRow_snoc (St : List Int) (k : Int) (o : List (List Int)) (l : List Int) (p : Int) : mustRow St k o (l ++ [p]) = stepM St k (mustRow St k o l) p := by
  unfold mustRow
  rw [List.foldl_append]
  rfl
theorem mustRow_length (St : List Int) (k : Int) (o : List (List Int)) (l : List Int) : (mustRow St k o l).length = o.length := by
  induction l using snoc_ind with
  | h0 => rfl
  | h1 l x ih => rw [mustRow_snoc, stepM_length, ih]
theorem mustTo_length (next : List (List Int)) (n : Nat) (s : Int) : ∀ k, (mustTo next n s k).length = n
  | 0 => by simp [mustTo]
  | k + 1 => by
    rw [mustTo]
    split
    · rw [mustRow_length, mustTo_length next n s k]
    · exact mustTo_length next n s k
theorem mustRow_short (St : List Int) (k : Int) (o : List (List Int)) (m : Nat) (h : ∀ b, (o.getD b []).length ≤ m) (l : List Int) : ∀ b, ((mustRow St k o l).getD b []).length ≤ m + l.length := by
  induction l using snoc_ind with
  | h0 => exact h
  | h1 l x ih =>
    intro b
    rw [mustRow_snoc, stepM]
    rw [List.length_append, List.length_singleton]
    split
    · have := ih b; omega
    · by_cases hl : x.toNat < (mustRow St k o l).length
      · rw [getD_set hl]
        split
        · rw [List.length_append, List.length_singleton]
          have := ih x.toNat
          omega
        · have := ih b; omega
      · rw [List.set_eq_of_length_le (by omega)]
        have := ih b
        omega
theorem mustTo_short (next : List (List Int)) (n : Nat) (s : Int) (m : Nat) (h : (fromL next n s).length ≤ m) : ∀ k, ∀ b, ((mustTo next n s k).getD b []).length ≤ k * m
  | 0 => fun b => by
    rw [mustTo, List.getD_eq_getElem?_getD, List.getElem?_replicate]
    split <;> simp
  | k + 1 => fun b => by
    rw [mustTo, Nat.succ_mul]
    split
    · have := mustRow_short ((foundL (succL next) k n [s]).map Prod.fst) k (mustTo next n s k) (k * m) (mustTo_short next n s m h k) (fromL next n s) b
      omega
    · have := mustTo_short next n s m h k b
      omega
/-- Rows of the own behind what turns one block of another kind. -/
theorem RowsAt.keepsT {w w' : World} {B T : Nat} {S : List Value} {xss : List (List Int)} {ys : List Value} {t : TypeId} (h : RowsAt w B S xss) (k : Keeps (fun j => j = T) w w') (hT : Blk w T ys t) (h3 : t ≠ 3) (h25 : t ≠ 25) : RowsAt w' B S xss :=
  ⟨h.blk.keeps k (fun e => blk_ne h.blk hT (Ne.symm h25) e), h.len, fun i hi => by
    obtain ⟨v, h1, h2⟩ := h.row i hi
    refine ⟨v, h1, owns_of_eq h2 (fun g hg => k.block g (owns_here h2 g hg).2 (fun e => ?_))⟩
    obtain ⟨_, h4⟩ := h2
    rcases h4 with ⟨rfl, _⟩ | ⟨g2, cap, cur, rfl, _, hh, _⟩
    · cases hg
    · cases hg
      unfold Blk at hT
      have e' : g2 = T := e
      rw [e', hT] at hh
      simp only [Option.some.injEq, Obj.cells.injEq] at hh
      exact h3 hh.2.1, h.apart⟩
theorem contains_l (a : Option Addr) (n c : Nat) (xs : List Int) (x : Int) (w : World) (h : Ints w a n xs) :
    Calls Try.prog 26 #[.slice a n c, .int .i64 x] w fun e w' => e = .returned (.bool (decide (x ∈ xs))) ∧ w' = w := by
  have hl := h.len
  have hb := h.big
  by_cases h0 : n = 0
  · subst h0
    have hx : xs = [] := List.eq_nil_of_length_eq_zero hl
    subst hx
    refine (Try.slices_Contains_int_empty a c x w).mono ?_
    rintro e w' ⟨rfl, rfl⟩
    exact ⟨ret_bool (by simp), rfl⟩
  · obtain ⟨b, off, rfl, hbl, hc⟩ := h.at (by omega)
    refine (Try.slices_Contains_int b off n c xs x w (by omega) (by omega) (fun j hj => hc j (by omega))).mono ?_
    rintro e w' ⟨rfl, rfl⟩
    refine ⟨ret_bool ?_, rfl⟩
    rw [List.take_of_length_le (by omega)]
    by_cases hm : x ∈ xs
    · rw [decide_eq_true hm]; simpa using hm
    · rw [decide_eq_false hm]; simpa using hm
set_option maxRecDepth 100000 in
set_option maxHeartbeats 4000000 in
theorem musts_yes (a : Option Addr) (n cap : Nat) (next : List (List Int)) (st : Int) (w : World) (h : Rows w a n next) (hc : checkB next = true) (hs : 0 ≤ st ∧ st < n) :
    Calls Try.prog 36 #[.slice a n cap, .int .i64 st] w fun e w' => ∃ v, e = .returned (.tuple #[v, .int .i64 0]) ∧ NewRows w w' v (mustsL next n st) := by
  have hlen := h.len
  subst hlen
  have hn := (checkB_iff.1 hc).1
  have hst1 : ∀ x ∈ [st], 0 ≤ x ∧ x < (next.length : Int) := fun x hx => by rw [List.mem_singleton.1 hx]; exact hs
  have HF := hide (from_yes a next.length cap next st w h hc hs)
  obtain ⟨i0, hi, hz0, hz1, hz2⟩ := info3_parts
  have HXn := hide h
  have HC := hide hc
  have HLk : Hid ((fromL next next.length st).length ≤ next.length ∧ ∀ x ∈ fromL next next.length st, 0 ≤ x ∧ x < (next.length : Int)) := by
    unfold fromL
    refine ⟨by rw [List.length_map]; exact found_len _ hc hst1, fun x hx => ?_⟩
    obtain ⟨y, hy, rfl⟩ := List.mem_map.1 hx
    exact (found_bd (-1) hc hst1 y hy).1
  obtain ⟨n, hn2⟩ : ∃ n, next.length = n := ⟨_, rfl⟩
  have HN := hide hn2
  rw [hn2] at HF HXn hn HLk hst1 ⊢
  have HS1 := hide hst1
  obtain ⟨A, hA⟩ : ∃ A, fromL next n st = A := ⟨_, rfl⟩
  have HA := hide hA
  rw [hA] at HF HLk
  obtain ⟨p, hp⟩ : ∃ p, A.length = p := ⟨_, rfl⟩
  have HP := hide hp
  have hpn : p ≤ n := by rw [← hp]; exact HLk.out.1
  clear h hc hn2 hs hst1 hA hp
  refine (callsIn_wide (n := 5)).1 ?_
  refine callsIn_of_wp_marks Try.func36 rfl trivial ?_ rfl
  simp only [Try.ntmps36, List.size_toArray, List.length_cons, List.length_nil, Nat.reduceAdd, Nat.reduceSub, Array.replicate_succ, Array.replicate_zero, List.push_toArray, List.append_toArray, List.nil_append, List.cons_append]
  refine wpIn_wide.2 ?_
  go_wp2_with fail
  refine HF.out.mono ?_
  rintro e w1 ⟨v, rfl, hO⟩
  obtain ⟨a9, c9, hv9⟩ := owns_slice hO.1
  subst hv9
  obtain ⟨a8, c8, hv8, hIA⟩ := ints_of_owns hO.1 (by rw [HP.out]; omega)
  cases hv8
  rw [HP.out] at hIA ⊢
  have HIA := hide hIA
  have HK1 := hide hO.2
  have hms := make23 w1 n (by omega)
  obtain ⟨B, hB⟩ : ∃ B, w1.heap.size = B := ⟨_, rfl⟩
  have HMs := hide hB
  have HA0 := hide (rowsAt_made w1 (n := n) hB)
  have HK0 := hide ((Keeps.refl Non w1).alloc (.cells (List.replicate n (Value.slice none 0 0)).toArray 25))
  have hwB : w.heap.size ≤ B := by rw [← hB]; exact HK1.out.size
  clear hO hIA HF
  go_wp2_with fail
  obtain ⟨W1, hW1⟩ : ∃ W, w1.alloc (.cells (List.replicate n (Value.slice none 0 0)).toArray 25) = W := ⟨_, rfl⟩
  have hW2 := hW1
  simp only [List.toArray_replicate] at hW2
  first | rw [hW1] | rw [hW2]
  rw [hW1] at HA0 HK0 hms
  try rw [hB]
  clear hW1 hW2 hB hms
  obtain ⟨Iv, hIv⟩ : ∃ Iv : Act → World → Prop, Iv = fun a' wr => ∃ (k : Nat) (u9 u10 u11 u13 u29 u30 u31 u32 u33 u34 u35 u36 u37 u38 u39 u40 u41 u42 u43 u44 u45 u46 u47 u48 u49 u50 u51 u52 u53 u54 u55 u56 u57 u58 u59 u60 u61 u62 u63 u64 u65 u66 u67 u68 u69 u70 : Value) (ds : List Deferred) (S : List Value), a' = { tmps := #[.slice a n cap, .int .i64 st, undef, undef, .slice none 0 0, .int .i64 0, .slice a9 p c9, .int .i64 0, .slice (some ⟨B, 0, none⟩) n n, u9, u10, u11, undef, u13, .tuple #[.slice a9 p c9, .int .i64 0], .slice a n cap, .int .i64 st, .tuple #[.slice a9 p c9, .int .i64 0], .slice a9 p c9, .int .i64 0, .int .i64 0, .bool false, undef, .slice a n cap, .int .i64 n, .slice (some ⟨B, 0, none⟩) n n, .slice a n cap, .int .i64 n, .int .i64 k, u29, u30, u31, u32, u33, u34, u35, u36, u37, u38, u39, u40, u41, u42, u43, u44, u45, u46, u47, u48, u49, u50, u51, u52, u53, u54, u55, u56, u57, u58, u59, u60, u61, u62, u63, u64, u65, u66, u67, u68, u69, u70, undef], defers := ds } ∧ k ≤ n ∧ Hid (RowsAt wr B S (mustTo next n st k)) ∧ Hid (Marks B ds wr) ∧ Hid (Keeps Non w1 wr) := ⟨_, rfl⟩
  have HIv := hide hIv
  refine wp_loop Iv (fun a' _ => n - (intOf (a'.tmps.getD 28 undef)).toNat) ?start ?round
  case start =>
    rw [hIv]
    exact ⟨0, _, _, _, _, _, _, _, _, _, _, _, _, _, _, _, _, _, _, _, _, _, _, _, _, _, _, _, _, _, _, _, _, _, _, _, _, _, _, _, _, _, _, _, _, _, _, [], _, rfl, by omega, HA0.out, Marks.nil _ _, HK0.out⟩
  case round =>
    clear HA0 HK0
    intro a' wr hI
    rw [hIv] at hI
    clear hIv
    obtain ⟨k, u9, u10, u11, u13, u29, u30, u31, u32, u33, u34, u35, u36, u37, u38, u39, u40, u41, u42, u43, u44, u45, u46, u47, u48, u49, u50, u51, u52, u53, u54, u55, u56, u57, u58, u59, u60, u61, u62, u63, u64, u65, u66, u67, u68, u69, u70, ds, S, rfl, hk, HR, HMk, HK⟩ := hI
    by_cases hlt : k < n
    · have z0 : (0 : Int) ≤ (k : Int) := by omega
      have z1 : (k : Int) < (n : Int) := by omega
      have HCt := hide (contains_l a9 p c9 A k wr (HIA.out.non HK.out))
      have lB := HR.out.blk.lt
      by_cases hkA : (k : Int) ∈ A
      · rw [decide_eq_true hkA] at HCt
        have HS : Hid (mustTo next n st (k + 1) = mustRow ((foundL (succL next) k n [st]).map Prod.fst) k (mustTo next n st k) A) := by
          show _ = _
          rw [mustTo, HA.out, if_pos hkA]
        obtain ⟨P, hP⟩ : ∃ P, wr.heap.size = P := ⟨_, rfl⟩
        have hms2 := make64 wr n (by omega)
        rw [hP] at hms2 lB
        obtain ⟨L1, hL1⟩ : ∃ L1, foundL (succL next) k n [st] = L1 := ⟨_, rfl⟩
        obtain ⟨T0, hT0⟩ : ∃ T0, L1.map Prod.fst = T0 := ⟨_, rfl⟩
        rw [hL1, hT0] at HS
        have HTT := hide hT0
        have HL1 := hide hL1
        have HLn : Hid (L1.length ≤ n ∧ ∀ x ∈ L1, (0 ≤ x.1 ∧ x.1 < (n : Int)) ∧ 0 ≤ x.2 ∧ x.2 < (n : Int)) := by
          have h1 := found_len k HC.out (l := [st]) (by rw [HN.out]; exact HS1.out)
          have h2 := found_bd k HC.out (l := [st]) (by rw [HN.out]; exact HS1.out)
          rw [HN.out, hL1] at h1 h2
          exact ⟨h1, h2⟩
        clear hL1 hT0 hkA
        go_wp2_with fail
        refine HCt.out.mono ?_
        rintro e w2 ⟨rfl, rfl⟩
        go_wp2_with fail
        refine (found_any _ _ _ _ _ _ _ _).mono ?_
        rintro e w3 ⟨rfl, rfl⟩
        go_wp2_with fail
        obtain ⟨W0, hW0⟩ : ∃ W0, (((((w2.alloc (.cells (metL n []).toArray 4)).alloc (.cells #[.slice (some ⟨P, 0, none⟩) n n] 64)).alloc (.cells #[.int .i64 st] 3)).alloc (.cells #[.slice a n cap] 23)).alloc (.cells #[.int .i64 (k : Int)] 3)).alloc (.cells #[.slice (some ⟨P + 1 + 1, 0, none⟩) 1 1] 25) = W0 := ⟨_, rfl⟩
        rw [hW0]
        have hkr : Keeps Non w2 W0 := by rw [← hW0]; exact ((((((Keeps.refl _ w2).alloc _).alloc _).alloc _).alloc _).alloc _).alloc _
        have szW : W0.heap.size = P + 6 := by rw [← hW0, ← hP]; simp
        have bT : Blk W0 P (metL n []) 4 := by rw [← hW0]; exact (((((Blk.newAt _ (metL n []) 4 (by simp [hP])).alloc _).alloc _).alloc _).alloc _).alloc _
        have bX : Blk W0 (P + 1) [.slice (some ⟨P, 0, none⟩) n n] 64 := by rw [← hW0]; exact ((((Blk.newAt _ [.slice (some ⟨P, 0, none⟩) n n] 64 (by simp [hP])).alloc _).alloc _).alloc _).alloc _
        have b0 : Blk W0 (P + 1 + 1) [.int .i64 st] 3 := by rw [← hW0]; exact (((Blk.newAt _ [.int .i64 st] 3 (by simp [hP])).alloc _).alloc _).alloc _
        have b1 : Blk W0 (P + 1 + 1 + 1) [.slice a n cap] 23 := by rw [← hW0]; exact ((Blk.newAt _ [.slice a n cap] 23 (by simp [hP])).alloc _).alloc _
        have b2 : Blk W0 (P + 1 + 1 + 1 + 1) [.int .i64 (k : Int)] 3 := by rw [← hW0]; exact (Blk.newAt _ [.int .i64 (k : Int)] 3 (by simp [hP])).alloc _
        have b3 : Blk W0 (P + 1 + 1 + 1 + 2) [.slice (some ⟨P + 1 + 1, 0, none⟩) 1 1] 25 := by rw [← hW0]; exact Blk.newAt _ [.slice (some ⟨P + 1 + 1, 0, none⟩) 1 1] 25 (by simp [hP])
        have hk1W : Keeps Non w1 W0 := HK.out.then hkr
        have hkW : Keeps Non w W0 := HK1.out.then hk1W
        have hBP : B ≤ P := by rw [← hP, ← HMs.out]; exact HK.out.size
        obtain ⟨AA, CC, hF⟩ := HXn.out.fixed
        have hH : Hands 4 65 #[.pointer (some ⟨P + 1 + 1 + 1, 0, none⟩), .pointer (some ⟨P + 1 + 1 + 1 + 1, 0, none⟩), .pointer (some ⟨P + 1 + 1 + 1 + 2, 0, none⟩)] encQ (fun j => j = P) L1 W0 := by
          rw [← HL1.out]
          have e := checkB_succ HC.out
          rw [HN.out] at e
          exact found_hands 4 (by omega) a n cap (some ⟨P + 1 + 1, 0, none⟩) 1 1 next [st] k (fun j => j = P) W0 (P + 1 + 1 + 1) AA CC b1 b2 b3 (by omega) (by omega) (by omega)
            (fun W hkk => ⟨hF.non (hkW.trans hkk (fun i hi h => by subst h; omega)), ints_of_blk (xs := [st]) (b0.keeps hkk (by omega)) (by simp)⟩) (by omega) (by omega) e HS1.out
        have HH := hide hH
        have HbX := hide bX
        have HbT := hide bT
        have HR0 := hide (HR.out.keeps hkr)
        have HMk0 := hide (HMk.out.non hkr)
        have HkW1 := hide hk1W
        have HBP := hide hBP
        have HszW := hide szW
        clear hW0 hH hF bX b0 b1 b2 b3 hk1W hkW hkr hms2 lB HR HMk HK hBP
        refine (wpIn_wide (n := 5)).1 ?_
        refine wpIn_hands (n := 5) (by omega) (gf := 65) rfl ent65 HH.out (fun _ => rfl) (fun pre S W => (∀ j, S j ↔ j = P) ∧ Blk W P (metL n pre) 4) (fun j hj => by have := HszW.out; omega) (fun pre S A B' h kk => ⟨h.1, h.2.keeps kk (fun hh => hh.1 ((h.1 P).2 rfl))⟩) ⟨fun j => Iff.rfl, bT⟩ ?a1 ?assign1 ?body1 ?done1
        case assign1 =>
          intro l x W K hK
          unfold encQ
          gi_wp2
          exact hK
        case body1 =>
          rintro l pre x S A hpre ⟨hSM, hM⟩ hS hkA
          have cx := (HbX.out.keeps hkA (by omega)).cell 0
          simp only [List.getElem?_cons_zero] at cx
          have lx := (HbX.out.keeps hkA (by omega)).lt
          obtain ⟨⟨xp, xf⟩, rfl⟩ : ∃ y, y = x := ⟨_, rfl⟩
          have hxm : (xp, xf) ∈ L1 := by
            obtain ⟨t, ht⟩ := hpre
            rw [← ht]
            simp
          have hb := (HLn.out.2 _ hxm).1
          simp only at hb
          obtain ⟨pi, rfl⟩ := Int.eq_ofNat_of_zero_le hb.1
          have hpi : pi < n := by omega
          have cp := hM.cell pi
          rw [metL_at pre hpi] at cp
          have fm := hM.free pi none
          have lm := hM.lt
          have p0 : (0 : Int) ≤ (pi : Int) := by omega
          have p1 : (pi : Int) < (n : Int) := by omega
          have HE : Hid (Blk (A.setCell ⟨P, pi, none⟩ (.bool true)) P (metL n (pre ++ [((pi : Int), xf)])) 4) := by
            have h1 := hM.store pi (.bool true)
            rw [metL_set pre hpi xf] at h1
            exact h1
          have HPo : Hid (HPost (fun pre S W => (∀ (j : Nat), S j ↔ j = P) ∧ Blk W P (metL n pre) 4) (pre ++ [((pi : Int), xf)]) S A .normal { tmps := #[], defers := [] } (A.setCell ⟨P, pi, none⟩ (.bool true))) := by
            refine ⟨S, ⟨hSM, HE.out⟩, (Keeps.refl S A).set (.inl ((hSM P).2 rfl)) _, fun j hj => ⟨.inl hj, ?_⟩⟩
            rw [(hSM j).1 hj]
            exact HE.out.lt
          clear hM hpre hS hkA hxm hb hSM
          gi_wp2
          exact HPo.out
        case done1 =>
          rintro D S9 W hD ⟨hSM, hT⟩ hkW2 hS hK
          have hTn : ∀ i, i = P → ∀ o, W0.heap[i]? ≠ some (Obj.deferred o) := fun i hi o => by rw [hi]; exact blk_no_mark HbT.out o
          have HMk1 := hide (HMk0.out.cons (HMk0.out.keeps hkW2 hTn) (by have := HszW.out; have := HBP.out; omega) hD hK)
          have HT := hide hT
          have HbX1 := hide (HbX.out.keeps hkW2 (by omega))
          have HR1 := hide (HR0.out.keepsT hkW2 HbT.out (by decide) (by decide))
          have HkW1' : Hid (Keeps Non w1 W) := HkW1.out.trans hkW2 (fun i hi h => by subst h; have := HMs.out; have := HBP.out; omega)
          clear hkW2 hS hK hSM hT hTn HR0 HbX HkW1 HMk0 HbT bT
          go_wp2_with fail
          go_loopw [50] (fun j wi => ∃ (r : Nat) (S2 : List Value), r ≤ p ∧ j = .int .i64 r ∧ Hid (RowsAt wi B S2 (mustRow T0 k (mustTo next n st k) (A.take r))) ∧ Hid (Blk wi P (metL n L1) 4) ∧ Hid (Blk wi (P + 1) [.slice (some ⟨P, 0, none⟩) n n] 64) ∧ Hid (Marks B ({ target := .collected D, args := #[] } :: ds) wi) ∧ Hid (Keeps Non w1 wi)) (fun j _ => p - (intOf j).toNat)
          case atStart => exact ⟨0, S, by omega, rfl, HR1.out, HT.out, HbX1.out, HMk1.out, HkW1'.out⟩
          case round =>
            clear HR1 HT HbX1 HMk1 HkW1'
            obtain ⟨r, S2, hr, rfl, HA2, HT, HbX1, HMk1, HK2⟩ := hrel
            have hlm : (mustRow T0 k (mustTo next n st k) (A.take r)).length = n := by rw [mustRow_length, mustTo_length]
            by_cases hrp : r < p
            · obtain ⟨b2, o2, hai, hb2, hc2⟩ := (HIA.out.non HK2.out).at (by omega)
              subst hai
              have cr := hc2 r hrp
              obtain ⟨x, hx⟩ : ∃ x, A.getD r 0 = x := ⟨_, rfl⟩
              rw [hx] at cr
              have hxb := HLk.out.2 x (by rw [← hx, getD_num (by rw [HP.out]; omega)]; exact List.getElem_mem _)
              obtain ⟨xi, rfl⟩ := Int.eq_ofNat_of_zero_le hxb.1
              have hxn : xi < n := by omega
              have HTk : Hid (A.take (r + 1) = A.take r ++ [(xi : Int)]) := take_snocI (by rw [HP.out]; omega) hx
              have hsn := mustRow_snoc T0 k (mustTo next n st k) (A.take r) xi
              rw [← HTk.out] at hsn
              have hsh := mustRow_short T0 k (mustTo next n st k) (k * n) (mustTo_short next n st n (by rw [HA.out, HP.out]; exact hpn) k) (A.take r) xi
              rw [List.length_take, HP.out] at hsh
              have hkn2 : k * n ≤ 1024 * 1024 := Nat.mul_le_mul (by omega) (by omega)
              have hT1 := HT.out
              have cT := hT1.cell xi
              rw [metL_at L1 hxn, HTT.out] at cT
              have lT := hT1.lt
              have cX := HbX1.out.cell 0
              simp only [List.getElem?_cons_zero] at cX
              have lX := HbX1.out.lt
              obtain ⟨cur, hcur⟩ : ∃ cur, mustRow T0 k (mustTo next n st k) (A.take r) = cur := ⟨_, rfl⟩
              rw [hcur] at HA2 hlm hsn hsh
              have r0 : (0 : Int) ≤ (r : Int) := by omega
              have r1 : (r : Int) < (p : Int) := by omega
              have t0 : (0 : Int) ≤ (xi : Int) := by omega
              have t1 : (xi : Int) < (n : Int) := by omega
              unfold stepM at hsn
              rw [Int.toNat_natCast] at hsn
              by_cases hin : (xi : Int) ∈ T0
              · rw [decide_eq_true hin] at cT
                rw [if_pos hin] at hsn
                have HSn := hide hsn
                clear hc2 hx hxb hsn hsh hT1 hcur hin
                go_wp2_with fail
                go_roundw
                case rel => exact ⟨r + 1, S2, by omega, by go_num, by show RowsAt _ _ _ _; rw [HSn.out]; exact HA2.out, HT.out, HbX1.out, HMk1.out, HK2.out⟩
                case measure => simp [intOf]; omega
              · rw [decide_eq_false hin] at cT
                rw [if_neg hin] at hsn
                obtain ⟨v, hv, ho⟩ := HA2.out.row xi (by omega)
                obtain ⟨ys, hys⟩ : ∃ ys, cur.getD xi [] = ys := ⟨_, rfl⟩
                rw [hys] at ho hsh hsn
                obtain ⟨yl, hyl⟩ : ∃ yl, ys.length = yl := ⟨_, rfl⟩
                rw [hyl] at ho hsh
                have hylb : yl ≤ 2000000 := by omega
                have HYl := hide hyl
                have HO := hide ho
                have HV := hide hv
                have HSn := hide hsn
                have cb : wr.cell? ⟨B, xi, none⟩ = some v := by rw [HA2.out.blk.cell]; exact hv
                have fb := HA2.out.blk.free xi none
                have lb := HA2.out.blk.lt
                obtain ⟨va, vc, rfl⟩ := owns_slice ho
                have hgB : some B ≠ (Value.slice va yl vc).ownBlock := fun e => by
                  have := own_ge HO.out B e.symm
                  omega
                have HN5 : Hid (∀ v' w5, w5.ownsRow (B + 1) 3 1 v' (yl + 1) ((ys.map (Value.int .i64)) ++ [.int .i64 (k : Int)]) → (wr.alloc (.cells #[.int .i64 (k : Int)] 3)).grownBy w5 (Value.slice va yl vc).ownBlock → (v'.ownBlock = (Value.slice va yl vc).ownBlock ∨ v'.ownBlock = some (wr.alloc (.cells #[.int .i64 (k : Int)] 3)).heap.size) →
                    Hid (RowsAt (w5.setCell ⟨B, xi, none⟩ v') B (S2.set xi v') (mustRow T0 k (mustTo next n st k) (A.take (r + 1)))) ∧ Hid (Blk (w5.setCell ⟨B, xi, none⟩ v') P (metL n L1) 4 ∧ Blk (w5.setCell ⟨B, xi, none⟩ v') (P + 1) [.slice (some ⟨P, 0, none⟩) n n] 64 ∧ Marks B ({ target := .collected D, args := #[] } :: ds) (w5.setCell ⟨B, xi, none⟩ v') ∧ Keeps Non w1 (w5.setCell ⟨B, xi, none⟩ v')) ∧ w5.cell? ⟨B, xi, none⟩ = some (.slice va yl vc) ∧ w5.frozen? ⟨B, xi, none⟩ = false ∧ B < w5.heap.size) := fun v' w5 hown hgrow hat => by
                  refine ⟨?_, ?_, ?_, ?_, ?_⟩
                  · show RowsAt _ _ _ _
                    rw [HSn.out]
                    refine HA2.out.put (by rw [hlm]; exact hxn) HV.out ((Keeps.refl Non wr).alloc _) ?_ hgrow (hat.imp id fun e g hg => ?_)
                    · rw [List.length_append, List.map_append, HYl.out]
                      exact hown
                    · rw [e] at hg
                      cases hg
                      simp
                  · have hkk : Keeps (fun j => j = B ∨ (Value.slice va yl vc).ownBlock = some j) wr (w5.setCell ⟨B, xi, none⟩ v') := (keeps_grown ((Keeps.refl _ wr).alloc _) hgrow (fun g hg => .inl (.inr hg))).set (.inl (.inl rfl)) _
                    have hcell : ∀ i, (i = B ∨ (Value.slice va yl vc).ownBlock = some i) → ∃ (xs : Array Value) (f : Nat × Nat) (t : TypeId), wr.heap[i]? = some (.cells xs t f) ∧ (t = 25 ∨ t = 3) := fun i hi => by
                      rcases hi with rfl | hi
                      · exact ⟨_, _, _, HA2.out.blk, .inl rfl⟩
                      · obtain ⟨_, h4⟩ := HO.out
                        rcases h4 with ⟨h5, _⟩ | ⟨g2, cap2, cur2, h5, _, hh, _⟩
                        · rw [h5] at hi; cases hi
                        · rw [h5] at hi
                          cases hi
                          exact ⟨_, _, _, hh, .inr rfl⟩
                    have hne : ∀ (b : Nat) (xs : List Value) (t : TypeId), Blk wr b xs t → t ≠ 25 → t ≠ 3 → ¬ (b = B ∨ (Value.slice va yl vc).ownBlock = some b) := fun b xs t hb h1 h2 hi => by
                      obtain ⟨ys2, f, t2, h3, h4⟩ := hcell b hi
                      unfold Blk at hb
                      rw [hb] at h3
                      simp only [Option.some.injEq, Obj.cells.injEq] at h3
                      rcases h4 with h4 | h4
                      · exact h1 (h3.2.1.trans h4)
                      · exact h2 (h3.2.1.trans h4)
                    refine ⟨HT.out.keeps hkk (hne _ _ _ HT.out (by decide) (by decide)), HbX1.out.keeps hkk (hne _ _ _ HbX1.out (by decide) (by decide)), HMk1.out.keeps hkk (fun i hi o e => ?_), HK2.out.trans hkk (fun i hi h => ?_)⟩
                    · obtain ⟨ys2, f, t2, h3, _⟩ := hcell i hi
                      rw [h3] at e
                      cases e
                    · have := HMs.out
                      rcases h with h | h
                      · omega
                      · have := own_ge HO.out i h; omega
                  · exact (World.cell?_of_block (w := wr.alloc (.cells #[.int .i64 k] 3)) (hgrow.block B (by simp; omega) hgB)).trans ((((Keeps.refl Non wr).alloc (.cells #[.int .i64 k] 3)).cell (p := ⟨B, xi, none⟩) lb (fun x => x)).trans cb)
                  · exact (World.frozen?_of_block (w := wr.alloc (.cells #[.int .i64 k] 3)) (hgrow.block B (by simp; omega) hgB)).trans ((((Keeps.refl Non wr).alloc (.cells #[.int .i64 k] 3)).frozen (p := ⟨B, xi, none⟩) lb (fun x => x)).trans fb)
                  · have := hgrow.size; simp at this; omega
                clear hc2 hx hxb hsn hsh hT1 hcur hin hv ho hys hyl
                go_wp2_with (at_builtin; refine wpList_append_own_at _ rfl _ _ 25 rfl (B + 1) 3 i0 (.int .i64 0) 1 8 Try.underlying25 hi hz0 hz1 hz2 rfl (by decide) _ yl (ys.map (Value.int .i64)) rfl (owns_keeps HO.out ((Keeps.refl Non _).alloc _) (fun _ _ x => x)) ⟨wr.heap.size, 0, none⟩ 1 1 [.int .i64 k] rfl rfl (cell_one_new _ _ _) (by intro u hu; simp at hu; subst hu; rfl) (by unfold maxLen; omega) (by omega) (by simp; omega) ?_; intro v' w5 hown hgrow hnil hat; obtain ⟨HRn, HKn, cb5, fb5, lb5⟩ := HN5.out v' w5 hown hgrow hat; obtain ⟨a5, c5, rfl⟩ := owns_slice hown; clear hown hgrow hnil hat)
                go_roundw
                case rel => exact ⟨r + 1, _, by omega, by go_num, HRn.out, HKn.out.1, HKn.out.2.1, HKn.out.2.2.1, HKn.out.2.2.2⟩
                case measure => simp [intOf]; omega
            · have hrr : r = p := by omega
              subst hrr
              have y9 : ¬ (r : Int) < (r : Int) := by omega
              have HE : Hid (RowsAt wr B S2 (mustTo next n st (k + 1))) := by
                show RowsAt _ _ _ _
                have h := HA2.out
                rw [List.take_of_length_le (by rw [HP.out]; exact Nat.le_refl _)] at h
                rw [HS.out]
                exact h
              go_wp2_with fail
              rw [HIv.out]
              rw [show ((k : Int) + 1) = ((k + 1 : Nat) : Int) from rfl]
              exact ⟨⟨k + 1, _, _, _, _, _, _, _, _, _, _, _, _, _, _, _, _, _, _, _, _, _, _, _, _, _, _, _, _, _, _, _, _, _, _, _, _, _, _, _, _, _, _, _, _, _, _, _, S2, rfl, by omega, HE.out, HMk1.out, HK2.out⟩, by simp [intOf]; omega⟩
      · rw [decide_eq_false hkA] at HCt
        have HS : Hid (mustTo next n st (k + 1) = mustTo next n st k) := by
          show _ = _
          rw [mustTo, HA.out, if_neg hkA]
        clear hkA
        go_wp2_with fail
        refine HCt.out.mono ?_
        rintro e w2 ⟨rfl, rfl⟩
        go_wp2_with fail
        rw [HIv.out]
        rw [show ((k : Int) + 1) = ((k + 1 : Nat) : Int) from rfl]
        refine ⟨⟨k + 1, _, _, _, _, _, _, _, _, _, _, _, _, _, _, _, _, _, _, _, _, _, _, _, _, _, _, _, _, _, _, _, _, _, _, _, _, _, _, _, _, _, _, _, _, _, _, ds, S, rfl, by omega, ?_, HMk.out, HK.out⟩, by simp [intOf]; omega⟩
        rw [HS.out]
        exact HR.out
    · have hkn : k = n := by omega
      subst hkn
      have y9 : ¬ (k : Int) < (k : Int) := by omega
      have HE : Hid (∀ w', Keeps (fun j => B ≤ j) wr w' → (∀ j : Nat, (∀ o : Option (List Deferred), wr.heap[j]? ≠ some (Obj.deferred o)) → w'.heap[j]? = wr.heap[j]?) → NewRows w w' (.slice (some ⟨B, 0, none⟩) k k) (mustsL next k st)) := fun w' hkk hs => by
        have h := HR.out
        refine ⟨B, S, by rw [mustsL, mustTo_length], hwB, ⟨h.blk.of_eq (hs B (fun o => blk_no_mark h.blk o)), h.len, fun i hi => ?_, h.apart⟩, ?_⟩
        · obtain ⟨v, h1, h2⟩ := h.row i hi
          refine ⟨v, h1, owns_of_eq h2 (fun g hg => hs g (fun o e => ?_))⟩
          obtain ⟨_, h4⟩ := h2
          rcases h4 with ⟨rfl, _⟩ | ⟨g2, cap2, cur, rfl, _, hh, _⟩
          · cases hg
          · cases hg
            have hh2 : wr.heap[g2]? = some (.deferred o) := e
            rw [hh2] at hh
            cases hh
        · exact (HK1.out.then HK.out).trans hkk (fun i hi h => by omega)
      go_wp2_with fail
      refine leaves_marks ds B _ HMk.out (fun w' hkk hs => ?_)
      exact ⟨_, by simp [results, Try.results36, go_sem], _, rfl, HE.out w' hkk hs⟩
theorem musts_no (a : Option Addr) (n cap : Nat) (next : List (List Int)) (st : Int) (x : Int) (w : World) (h : Rows w a n next) (hx : wrongE next [st] = x) (h0 : x ≠ 0) :
    Calls Try.prog 36 #[.slice a n cap, .int .i64 st] w fun e w' => e = .returned (.tuple #[.slice none 0 0, .int .i64 x]) ∧ Keeps Non w w' := by
  have HW := hide (from_no a n cap next st x w h hx h0)
  have g1 : (x != 0) = true := by simpa using h0
  clear h hx
  go_enter Try.func36, Try.ntmps36
  go_wp2_with fail
  refine HW.out.mono ?_
  rintro e w1 ⟨rfl, hk⟩
  go_wp2_with fail
  go_ret2
  exact ⟨rfl, hk⟩
end Go.Proofs.Ythpdflpkkiabhaa
