/-
  Walks over layer 6's reference: numbered, Ints. No condition.
-/
import Derived.Test.YtkcbahfmdokalaaS
namespace Go.Proofs.Ytkcbahfmdokalaa
open Go.RowKit
attribute [local go_sem] onto_cell onto_frozen
set_option linter.unusedVariables false
/-- What numbering does, step by step. -/
structure NumStep (n : Nat) (N : List Int) (c : Nat → Nat) (A : Nat → Nat → Prop) : Prop where
  len : N.length = n
  zero : c 0 = 0
  le : ∀ i, c i ≤ i
  nn : ∀ i, 0 ≤ N.getD i 0 ∧ N.getD i 0 ≤ n
  old : ∀ i k, k < i → i < n → A i k → N.getD i 0 = N.getD k 0 ∧ c (i + 1) = c i
  new : ∀ i, i < n → (∀ k, k < i → ¬ A i k) → N.getD i 0 = c i ∧ c (i + 1) = c i + 1
theorem numStep_of {α : Type} [BEq α] [LawfulBEq α] [DecidableEq α] (K : List α) (A : Nat → Nat → Prop) (hA : ∀ i k (hi : i < K.length) (hk : k < i), A i k ↔ K[i] = K[k]) : NumStep K.length (numb [] K) (fun i => (firsts [] (K.take i)).length) A := by
  have hsplit : ∀ i (hi : i < K.length), K = K.take i ++ K[i] :: K.drop (i + 1) := fun i hi => by
    rw [← List.drop_eq_getElem_cons hi, List.take_append_drop]
  have hmem : ∀ i (hi : i < K.length) x, x ∈ firsts [] (K.take i) ↔ ∃ k, ∃ h : k < i, K[k] = x := fun i hi x => by
    rw [firsts_mem]
    constructor
    · rintro (h | h)
      · cases h
      · obtain ⟨k, hk, rfl⟩ := List.mem_iff_getElem.1 h
        rw [List.length_take] at hk
        exact ⟨k, by omega, by rw [List.getElem_take]⟩
    · rintro ⟨k, h, rfl⟩
      refine .inr (List.mem_iff_getElem.2 ⟨k, by rw [List.length_take]; omega, ?_⟩)
      rw [List.getElem_take]
  have hstep : ∀ i (hi : i < K.length), firsts [] (K.take (i + 1)) = if K[i] ∈ firsts [] (K.take i) then firsts [] (K.take i) else firsts [] (K.take i) ++ [K[i]] := fun i hi => by
    rw [List.take_succ_eq_append_getElem hi, firsts_append]
    simp only [firsts]
  refine ⟨numb_length _ _, by simp [firsts], fun i => ?_, fun i => ?_, fun i k hk hi ha => ?_, fun i hi hn => ?_⟩
  · have := firsts_length_le (K.take i) []
    have h2 := List.length_take_le i K
    simp only [List.length_nil] at this
    omega
  · by_cases h : i < K.length
    · have h1 := numb_bound K ((numb [] K).getD i 0) (getD_mem (by rw [numb_length]; exact h))
      have h2 := firsts_length_le K []
      simp only [List.length_nil] at h2
      omega
    · rw [List.getD_eq_getElem?_getD, List.getElem?_eq_none (by rw [numb_length]; omega)]
      simp
  · have he := (hA i k hi hk).1 ha
    constructor
    · rw [getD_num (by rw [numb_length]; exact hi), getD_num (by rw [numb_length]; omega), numb_ker K hi (by omega)]
      exact he
    · show (firsts [] (K.take (i + 1))).length = _
      rw [hstep i hi, if_pos ((hmem i hi _).2 ⟨k, hk, he.symm⟩)]
  · have hnot : ¬ K[i] ∈ firsts [] (K.take i) := fun h => by
      obtain ⟨k, hk, he⟩ := (hmem i hi _).1 h
      exact hn k hk ((hA i k hi hk).2 he.symm)
    constructor
    · have h1 : (numb [] K)[i]? = some ((firsts [] (K.take i)).length : Int) := by
        conv => lhs; rw [hsplit i hi, numb_append]
        rw [List.getElem?_append_right (by rw [numb_length, List.length_take]; omega), numb_length, List.length_take, Nat.min_eq_left (by omega), Nat.sub_self]
        simp only [numb, if_neg hnot, List.getElem?_cons_zero]
      rw [List.getD_eq_getElem?_getD, h1]
      rfl
    · show (firsts [] (K.take (i + 1))).length = _
      rw [hstep i hi, if_neg hnot]
      simp
/-- One slice more in a row of slices. -/
theorem kids_push {w w4 w5 : World} {S : List Value} {xss : List (List Int)} {B e k q c4 : Nat} {v v' : Value} {a4 : Option Addr} {ys : List Int} (hKd : Kids w S xss v.ownBlock) (hO : w.ownsRow B e 1 v k S) (hxl : xss.length = k) (hk : Keeps Non w w4)
    (hq : ys.length = q) (hI : Ints w4 a4 q ys) (hfresh : ∀ b o, a4 = some ⟨b, o, none⟩ → w.heap.size ≤ b ∧ b < w4.heap.size) (hgrow : w4.grownBy w5 v.ownBlock) (hat : v'.ownBlock = v.ownBlock ∨ v'.ownBlock = some w4.heap.size) :
    Kids w5 (S ++ [.slice a4 q c4]) (xss ++ [ys]) v'.ownBlock := by
  have hkw5 := keeps_grown (Keeps.refl (fun b => some b = v.ownBlock) w4) hgrow (fun g hg => .inl hg.symm)
  have hSl : S.length = k := by simpa using hO.1
  have hu3 := owns_lt hO
  have hsz : w.heap.size ≤ w4.heap.size := hk.size
  have hsz5 := hgrow.size
  intro j hj
  simp only [List.length_append, List.length_cons, List.length_nil] at hj
  by_cases hjk : j < k
  · have e1 : (xss ++ [ys]).getD j [] = xss.getD j [] := by
      rw [List.getD_eq_getElem?_getD, List.getElem?_append_left (by omega), List.getD_eq_getElem?_getD]
    obtain ⟨aj, cj, h1, h2, h3⟩ := hKd j (by omega)
    rw [e1]
    refine ⟨aj, cj, by rw [List.getElem?_append_left (by omega)]; exact h1, (h2.non hk).keeps hkw5 (fun b o e he => (h3 b o e).2 he.symm), fun b o e => ?_⟩
    obtain ⟨h7, h8⟩ := h3 b o e
    refine ⟨by omega, fun he => ?_⟩
    rcases hat with h6 | h6
    · exact h8 (by rw [← h6]; exact he)
    · rw [h6] at he
      cases he
      omega
  · obtain rfl : j = k := by omega
    have e1 : (xss ++ [ys]).getD j [] = ys := by
      rw [List.getD_eq_getElem?_getD, List.getElem?_append_right (by omega), hxl]
      simp
    rw [e1, hq]
    refine ⟨a4, c4, by rw [List.getElem?_append_right (by omega), hSl]; simp, ?_, fun b o e => ?_⟩
    · exact hI.keeps hkw5 (fun b o e he => by
        have h1 := hfresh b o e
        have h2 := hu3 b he.symm
        omega)
    · have h1 := hfresh b o e
      refine ⟨by omega, fun he => ?_⟩
      rcases hat with h6 | h6
      · rw [h6] at he
        have h2 := hu3 b he
        omega
      · rw [h6] at he
        cases he
        omega
theorem kids_none (w : World) (S : List Value) (row : Option Nat) : Kids w S [] row := fun j hj => by simp at hj
theorem take_snocI {N : List Int} {i : Nat} {b : Int} (h : i < N.length) (hb : N.getD i 0 = b) : N.take (i + 1) = N.take i ++ [b] := by
  rw [List.take_succ_eq_append_getElem h, ← hb, getD_num h]
theorem getD_takeI {N : List Int} {i k : Nat} (h : k < i) : (N.take i).getD k 0 = N.getD k 0 := by
  rw [List.getD_eq_getElem?_getD, List.getElem?_take, if_pos h, List.getD_eq_getElem?_getD]
set_option maxRecDepth 100000 in
set_option maxHeartbeats 8000000 in
theorem numR_l (a : Option Addr) (n cap : Nat) (rows : List (List Int)) (N : List Int) (c : Nat → Nat) (A : Nat → Nat → Prop) (w : World) (h : Rows w a n rows) (hn : n ≤ 100000) (hs : NumStep n N c A) (hr : ∀ i, i < n → i ≤ (rows.getD i []).length) (hA : ∀ i k, k < i → i < n → ((rows.getD i []).getD k 0 = 1 ↔ A i k)) :
    Calls Try.prog 43 #[.slice a n cap] w fun e w' => ∃ v, e = .returned v ∧ GotInts w w' v N := by
  obtain ⟨i0, hi, hz0, hz1, hz2⟩ := info3_parts
  have HX := hide h
  have HS := hide hs
  have HR := hide hr
  have HA := hide hA
  clear h hs hr hA
  go_enter Try.func43, Try.ntmps43
  go_wp2_with fail
  go_loopw [5, 3, 4] (fun i v t wr => ∃ (k : Nat), k ≤ n ∧ i = .int .i64 k ∧ t = .int .i64 (c k) ∧ Hid (wr.ownsRow w.heap.size 3 1 v k ((N.take k).map (Value.int .i64))) ∧ Hid (Keeps Non w wr)) (fun i _ _ _ => n - (intOf i).toNat)
  case atStart => exact ⟨0, by omega, rfl, by rw [HS.out.zero]; rfl, World.ownsRow_nil _ _ _ _, Keeps.refl _ _⟩
  case round =>
    obtain ⟨k, hk, rfl, rfl, HO, HK⟩ := hrel
    by_cases hlt : k < n
    · obtain ⟨b1, o1, rfl, hb1, hc1⟩ := (HX.out.non HK.out).at (by omega)
      obtain ⟨ai, ci, c1, hI⟩ := hc1 k hlt
      have hrk := HR.out k hlt
      have HAk : Hid (∀ j, j < k → ((rows.getD k []).getD j 0 = 1 ↔ A k j)) := fun j hj => HA.out k j hj hlt
      obtain ⟨x, hx⟩ : ∃ x, rows.getD k [] = x := ⟨_, rfl⟩
      rw [hx] at c1 hI hrk HAk
      obtain ⟨q, hq⟩ : ∃ q, x.length = q := ⟨_, rfl⟩
      rw [hq] at c1 hI hrk
      have HI := hide hI
      have HNl : Hid (N.length = n) := HS.out.len
      obtain ⟨N0, hN0⟩ : ∃ b, N.getD k 0 = b := ⟨_, rfl⟩
      have HN0 := hide hN0
      have hnb := HS.out.nn k
      rw [hN0] at hnb
      have HOld : Hid (∀ j, j < k → A k j → N0 = N.getD j 0 ∧ c (k + 1) = c k) := fun j hj ha => by
        have := HS.out.old k j hj hlt ha
        rwa [hN0] at this
      have HNew : Hid ((∀ j, j < k → ¬ A k j) → N0 = c k ∧ c (k + 1) = c k + 1) := fun ha => by
        have := HS.out.new k hlt ha
        rwa [hN0] at this
      have HOi := hide (ints_of_owns HO.out (by omega))
      have hle := HS.out.le k
      have k0 : (0 : Int) ≤ (k : Int) := by omega
      have k1 : (k : Int) < (n : Int) := by omega
      clear hc1 hx hI hq hN0
      go_wp2_with fail
      go_loop [7, 6] (fun t b => ∃ (j : Nat) (y : Int), j ≤ k ∧ t = .int .i64 j ∧ b = .int .i64 y ∧ Hid ((y = -1 ∧ ∀ i, i < j → ¬ A k i) ∨ (y = N0 ∧ ∃ i, i < k ∧ A k i))) (fun t _ => k - (intOf t).toNat)
      case atStart => exact ⟨0, -1, by omega, rfl, rfl, .inl ⟨rfl, fun i hi => by omega⟩⟩
      case round =>
        obtain ⟨j, y, hj, rfl, rfl, HY⟩ := hrel
        rcases HY.out with ⟨rfl, hno⟩ | ⟨rfl, hyes⟩
        · have HNo := hide hno
          clear HY hno
          by_cases hjk : j < k
          · obtain ⟨bq, off, rfl, hbq, hcq⟩ := HI.out.at (by omega)
            have cq := hcq j (by omega)
            have hAj := HAk.out j hjk
            obtain ⟨z, hz⟩ : ∃ z, x.getD j 0 = z := ⟨_, rfl⟩
            rw [hz] at cq hAj
            obtain ⟨a2, c2, rfl, hI2⟩ := HOi.out
            obtain ⟨b3, o3, rfl, hb3, hc3⟩ := hI2.at (by omega)
            have c3 := hc3 j hjk
            rw [getD_takeI hjk] at c3
            obtain ⟨nj, hnj⟩ : ∃ z, N.getD j 0 = z := ⟨_, rfl⟩
            rw [hnj] at c3
            have j0 : (0 : Int) ≤ (j : Int) := by omega
            have j1 : (j : Int) < (k : Int) := by omega
            have j2 : (j : Int) < (q : Int) := by omega
            have HOj : Hid (A k j → N0 = nj) := fun ha => by rw [← hnj]; exact (HOld.out j hjk ha).1
            clear hcq hz hc3 hI2 hnj
            by_cases hz1 : z = 1
            · have HY2 := hide (hAj.1 hz1)
              subst hz1
              clear hAj
              go_wp2_with fail
              go_round
              case rel => exact ⟨j + 1, nj, by omega, by go_num, rfl, .inr ⟨(HOj.out HY2.out).symm, j, hjk, HY2.out⟩⟩
              case measure => simp [intOf]; omega
            · have HY2 : Hid (¬ A k j) := fun ha => hz1 (hAj.2 ha)
              clear hAj
              have hz2 : (z == 1) = false := by simpa using hz1
              go_wp2_with fail
              go_round
              case rel => exact ⟨j + 1, -1, by omega, by go_num, rfl, .inl ⟨rfl, fun i hi => by
                rcases Nat.lt_succ_iff_lt_or_eq.1 hi with h | rfl
                · exact HNo.out i h
                · exact HY2.out⟩⟩
              case measure => simp [intOf]; omega
          · obtain rfl : k = j := by omega
            have HNw := hide (HNew.out HNo.out)
            have y9 : ¬ (k : Int) < (k : Int) := by omega
            have c0 : (0 : Int) ≤ (c k : Int) := by omega
            have c1' : (c k : Int) ≤ (n : Int) := by omega
            go_wp2_with (at_builtin; refine wpList_append_own _ rfl _ _ 22 rfl w.heap.size 3 i0 (.int .i64 0) 1 8 Try.underlying22 hi hz0 hz1 hz2 rfl (by decide) _ k _ rfl (owns_keeps HO.out ((Keeps.refl Non _).alloc _) (fun _ _ x => x)) ⟨wr.heap.size, 0, none⟩ 1 1 [.int .i64 (c k)] rfl ?qa1 ?qa2 ?qa3 ?qa4 ?qa5 ?qa6 ?_)
            case qa3 => first | rfl | (intro u hu; simp at hu; subst hu; rfl)
            case qa4 => unfold maxLen; omega
            case qa5 => omega
            case qa6 => (try simp); have := HK.out.size; omega
            intro v' w5 hown hgrow hnil
            have HG := hide (And.intro hown hgrow)
            clear hown hgrow hnil
            go_wp2_with fail
            go_roundw
            case rel =>
              obtain ⟨hown, hgrow⟩ := HG.out
              refine ⟨k + 1, by omega, by go_num, by rw [HNw.out.2]; go_num, ?_, keeps_grown (HK.out.alloc _) hgrow (fun g hg => .inr (own_ge HO.out g hg))⟩
              rw [take_snocI (by rw [HNl.out]; exact hlt) HN0.out, List.map_append]
              rw [HNw.out.1]
              first | exact hown | (rw [← List.map_take] at hown; exact hown)
            case measure => simp [intOf]; omega
        · have HYes := hide hyes
          clear HY hyes
          have HOl : Hid (c (k + 1) = c k) := by
            obtain ⟨i, hi, ha⟩ := HYes.out
            exact (HOld.out i hi ha).2
          have n0 : 0 ≤ y := hnb.1
          have n1 : ¬ y < 0 := by omega
          by_cases hjk : j < k
          · have j1 : (j : Int) < (k : Int) := by omega
            go_wp2_with (at_builtin; refine wpList_append_own _ rfl _ _ 22 rfl w.heap.size 3 i0 (.int .i64 0) 1 8 Try.underlying22 hi hz0 hz1 hz2 rfl (by decide) _ k _ rfl (owns_keeps HO.out ((Keeps.refl Non _).alloc _) (fun _ _ x => x)) ⟨wr.heap.size, 0, none⟩ 1 1 [.int .i64 y] rfl ?qb1 ?qb2 ?qb3 ?qb4 ?qb5 ?qb6 ?_)
            case qb3 => first | rfl | (intro u hu; simp at hu; subst hu; rfl)
            case qb4 => unfold maxLen; omega
            case qb5 => omega
            case qb6 => (try simp); have := HK.out.size; omega
            intro v' w5 hown hgrow hnil
            have HG := hide (And.intro hown hgrow)
            clear hown hgrow hnil
            go_wp2_with fail
            go_roundw
            case rel =>
              obtain ⟨hown, hgrow⟩ := HG.out
              refine ⟨k + 1, by omega, by go_num, by rw [HOl.out], ?_, keeps_grown (HK.out.alloc _) hgrow (fun g hg => .inr (own_ge HO.out g hg))⟩
              rw [take_snocI (by rw [HNl.out]; exact hlt) HN0.out, List.map_append]
              skip
              first | exact hown | (rw [← List.map_take] at hown; exact hown)
            case measure => simp [intOf]; omega
          · have j1 : ¬ (j : Int) < (k : Int) := by omega
            go_wp2_with (at_builtin; refine wpList_append_own _ rfl _ _ 22 rfl w.heap.size 3 i0 (.int .i64 0) 1 8 Try.underlying22 hi hz0 hz1 hz2 rfl (by decide) _ k _ rfl (owns_keeps HO.out ((Keeps.refl Non _).alloc _) (fun _ _ x => x)) ⟨wr.heap.size, 0, none⟩ 1 1 [.int .i64 y] rfl ?qd1 ?qd2 ?qd3 ?qd4 ?qd5 ?qd6 ?_)
            case qd3 => first | rfl | (intro u hu; simp at hu; subst hu; rfl)
            case qd4 => unfold maxLen; omega
            case qd5 => omega
            case qd6 => (try simp); have := HK.out.size; omega
            intro v' w5 hown hgrow hnil
            have HG := hide (And.intro hown hgrow)
            clear hown hgrow hnil
            go_wp2_with fail
            go_roundw
            case rel =>
              obtain ⟨hown, hgrow⟩ := HG.out
              refine ⟨k + 1, by omega, by go_num, by rw [HOl.out], ?_, keeps_grown (HK.out.alloc _) hgrow (fun g hg => .inr (own_ge HO.out g hg))⟩
              rw [take_snocI (by rw [HNl.out]; exact hlt) HN0.out, List.map_append]
              skip
              first | exact hown | (rw [← List.map_take] at hown; exact hown)
            case measure => simp [intOf]; omega
    · obtain rfl : n = k := by omega
      have hO := HO.out
      rw [List.take_of_length_le (by rw [HS.out.len]; exact Nat.le_refl _)] at hO
      obtain ⟨a6, c6, rfl, hI6⟩ := ints_of_owns hO (by omega)
      have HE : Hid (GotInts w wr (.slice a6 n c6) N) := ⟨a6, c6, by rw [HS.out.len], by rw [HS.out.len]; exact hI6, HK.out⟩
      have y9 : ¬ (n : Int) < (n : Int) := by omega
      clear hO hI6
      go_wp2_with fail
      go_ret
      exact ⟨_, rfl, HE.out⟩
end Go.Proofs.Ytkcbahfmdokalaa
