/-
  Walks over layer 7: Check, wrong. No condition.
-/
import Derived.Test.YthpdflpkkiabhaaBc
namespace Go.Proofs.Ythpdflpkkiabhaa
open Go.RowKit
attribute [local go_sem] onto_cell onto_frozen
set_option linter.unusedVariables false
theorem ent62 : Ent 62 := ent_of Try.func62 (by decide) rfl
theorem ent68 : Ent 68 := ent_of Try.func68 (by decide) rfl
/-- No point. -/
def badB (n : Nat) (x : Int) : Bool := decide (x < 0) || decide ((n : Int) ≤ x)
theorem badB_no {n : Nat} {x : Int} : badB n x = false ↔ 0 ≤ x ∧ x < n := by
  unfold badB
  simp only [Bool.or_eq_false_iff, decide_eq_false_iff_not]
  omega
theorem bad62 (x : Int) (a : Option Addr) (n cap b : Nat) (w : World) (h : Blk w b [.slice a n cap] 23) :
    Calls Try.prog 62 #[.int .i64 x, .pointer (some ⟨b, 0, none⟩)] w fun e w' => e = .returned (.bool (badB n x)) ∧ Keeps Non w w' := by
  have hc := h.cell 0
  simp only [List.getElem?_cons_zero] at hc
  clear h
  by_cases h0 : x < 0
  · have HB : Hid (badB n x = true) := by
      show _ = _
      unfold badB
      simp [h0]
    go_enter Try.func62, Try.ntmps62
    go_wp2_with fail
    go_ret
    exact ⟨ret_bool HB.out.symm, Keeps.refl _ _⟩
  · have hd : decide (x < 0) = false := by simpa using h0
    by_cases h1 : (n : Int) ≤ x
    · have HB : Hid (badB n x = true) := by
        show _ = _
        unfold badB
        simp [h1]
      go_enter Try.func62, Try.ntmps62
      go_wp2_with fail
      go_ret
      refine ⟨?_, Keeps.refl _ _⟩
      rw [HB.out]
      rfl
    · have HB : Hid (badB n x = false) := by
        show _ = _
        unfold badB
        simp only [h0, h1]
        rfl
      go_enter Try.func62, Try.ntmps62
      go_wp2_with fail
      go_ret
      refine ⟨?_, Keeps.refl _ _⟩
      rw [HB.out]
      rfl
theorem bad68 (x : Int) (a : Option Addr) (n cap b : Nat) (w : World) (h : Blk w b [.slice a n cap] 23) :
    Calls Try.prog 68 #[.int .i64 x, .pointer (some ⟨b, 0, none⟩)] w fun e w' => e = .returned (.bool (badB n x)) ∧ Keeps Non w w' := by
  have hc := h.cell 0
  simp only [List.getElem?_cons_zero] at hc
  clear h
  by_cases h0 : x < 0
  · have HB : Hid (badB n x = true) := by
      show _ = _
      unfold badB
      simp [h0]
    go_enter Try.func68, Try.ntmps68
    go_wp2_with fail
    go_ret
    exact ⟨ret_bool HB.out.symm, Keeps.refl _ _⟩
  · have hd : decide (x < 0) = false := by simpa using h0
    by_cases h1 : (n : Int) ≤ x
    · have HB : Hid (badB n x = true) := by
        show _ = _
        unfold badB
        simp [h1]
      go_enter Try.func68, Try.ntmps68
      go_wp2_with fail
      go_ret
      refine ⟨?_, Keeps.refl _ _⟩
      rw [HB.out]
      rfl
    · have HB : Hid (badB n x = false) := by
        show _ = _
        unfold badB
        simp only [h0, h1]
        rfl
      go_enter Try.func68, Try.ntmps68
      go_wp2_with fail
      go_ret
      refine ⟨?_, Keeps.refl _ _⟩
      rw [HB.out]
      rfl
/-- How many edges there are. -/
def total (next : List (List Int)) : Nat := (next.map List.length).sum
theorem total_take_succ {next : List (List Int)} {k : Nat} (h : k < next.length) : total (next.take (k + 1)) = total (next.take k) + (next.getD k []).length := by
  unfold total
  rw [List.take_succ_eq_append_getElem h, List.map_append, List.sum_append, getD_numL h]
  simp
theorem total_take_le (next : List (List Int)) (k : Nat) : total (next.take k) ≤ total next := by
  unfold total
  conv => rhs; rw [← List.take_append_drop k next, List.map_append, List.sum_append]
  omega
/-- Edges that are right. -/
def checkB (next : List (List Int)) : Bool := decide (next.length ≤ 1024) && decide (total next ≤ 16384) && !next.any fun l => l.any (badB next.length)
def checkE (next : List (List Int)) : Int := if checkB next = true then 0 else 70
theorem checkB_iff {next : List (List Int)} : checkB next = true ↔ next.length ≤ 1024 ∧ total next ≤ 16384 ∧ ∀ l ∈ next, ∀ x ∈ l, 0 ≤ x ∧ x < (next.length : Int) := by
  unfold checkB
  simp only [Bool.and_eq_true, decide_eq_true_eq, Bool.not_eq_true', and_assoc]
  refine and_congr_right fun _ => and_congr_right fun _ => ?_
  constructor
  · intro h l hl x hx
    rw [List.any_eq_false] at h
    have h2 := h l hl
    rw [Bool.not_eq_true, List.any_eq_false] at h2
    have h3 := h2 x hx
    rw [Bool.not_eq_true] at h3
    exact badB_no.1 h3
  · intro h
    rw [List.any_eq_false]
    intro l hl
    rw [Bool.not_eq_true, List.any_eq_false]
    intro x hx
    rw [Bool.not_eq_true]
    exact badB_no.2 (h l hl x hx)
theorem checkE_bad {next : List (List Int)} (h : ¬ checkB next = true) : checkE next = 70 := if_neg h
set_option maxHeartbeats 2000000 in
theorem check_l (a : Option Addr) (n cap : Nat) (next : List (List Int)) (w : World) (h : Rows w a n next) :
    Calls Try.prog 35 #[.slice a n cap] w fun e w' => e = .returned (.int .i64 (checkE next)) ∧ Keeps Non w w' := by
  have hn := h.big
  have hlen := h.len
  have HX := hide h
  have HBx := hide (Blk.new w [.slice a n cap] 23)
  have cB := HBx.out.cell 0
  simp only [List.getElem?_cons_zero] at cB
  have HK0 := hide ((Keeps.refl Non w).alloc (.cells #[.slice a n cap] 23))
  clear h
  go_enter Try.func35, Try.ntmps35
  go_wp2_with fail
  obtain ⟨b, hb⟩ : ∃ b, w.heap.size = b := ⟨_, rfl⟩
  obtain ⟨W, hW⟩ : ∃ W, w.alloc (.cells #[.slice a n cap] 23) = W := ⟨_, rfl⟩
  rw [hW, hb] at HBx
  rw [hW] at HK0
  try rw [hW]
  try rw [hb]
  clear hW hb cB
  go_loopw [3, 8] (fun s i wr => ∃ (k : Nat), k ≤ n ∧ i = .int .i64 k ∧ s = .int .i64 (total (next.take k)) ∧ total (next.take k) ≤ 16384 ∧ Hid (∀ l ∈ next.take k, l.any (badB n) = false) ∧ Hid (Blk wr b [.slice a n cap] 23) ∧ Hid (Keeps Non w wr)) (fun _ i _ => n - (intOf i).toNat)
  case atStart => exact ⟨0, by omega, rfl, rfl, by simp [total], fun l hl => by simp at hl, HBx.out, HK0.out⟩
  case round =>
    clear HBx HK0
    obtain ⟨k, hk, rfl, rfl, htot, HA, HB, HK⟩ := hrel
    have cB := HB.out.cell 0
    simp only [List.getElem?_cons_zero] at cB
    obtain ⟨t, ht⟩ : ∃ t, total (next.take k) = t := ⟨_, rfl⟩
    rw [ht] at htot ⊢
    by_cases hlt : k < n
    · obtain ⟨b1, o1, rfl, hb1, hc1⟩ := (HX.out.non HK.out).at (by omega)
      obtain ⟨ai, ci, hci, hIi⟩ := hc1 k hlt
      have hts := total_take_succ (next := next) (k := k) (by omega)
      have hmem := getD_mem (xs := next) (d := []) (i := k) (by omega)
      have htk := take_snocL (N := next) (d := []) (i := k) (by omega)
      have hle := total_take_le next (k + 1)
      obtain ⟨l, hl⟩ : ∃ l, next.getD k [] = l := ⟨_, rfl⟩
      rw [hl] at hci hIi hts hmem htk
      rw [ht] at hts
      have HC := hide (contains_int ai l.length ci l 62 (.pointer (some ⟨b, 0, none⟩)) (badB n) wr ent62 hIi (fun x w' hk' => bad62 x (some ⟨b1, o1, none⟩) n cap b w' (HB.out.keeps hk' (fun x => x))))
      have hlb := hIi.big
      obtain ⟨q, hq⟩ : ∃ q, l.length = q := ⟨_, rfl⟩
      obtain ⟨v, hv⟩ : ∃ v, l.any (badB n) = v := ⟨_, rfl⟩
      rw [hq] at hci HC hts hlb
      rw [hv] at HC
      have HT := hide (And.intro hts (And.intro hmem (And.intro htk (And.intro hle hv))))
      have z0 : (0 : Int) ≤ (k : Int) := by omega
      have z1 : (k : Int) < (n : Int) := by omega
      clear hc1 hIi hts hmem htk hle hq hv hl ht
      by_cases hbig : 16384 < t + q
      · have HE : Hid (checkE next = 70) := checkE_bad (fun h => by have := (checkB_iff.1 h).2.1; have h1 := HT.out.1; have h2 := HT.out.2.2.2.1; omega)
        have g1 : (16384 : Int) < (t : Int) + (q : Int) := by omega
        go_wp2_with fail
        try rw [Exit.noGoto_ret]
        go_ret
        exact ⟨ret_int HE.out.symm, HK.out⟩
      · have g1 : ¬ (16384 : Int) < (t : Int) + (q : Int) := by omega
        cases v with
        | true =>
          have HE : Hid (checkE next = 70) := checkE_bad (fun h => by
            have h1 := (checkB_iff.1 h).2.2 l HT.out.2.1
            obtain ⟨x, hx, hx2⟩ := List.any_eq_true.1 HT.out.2.2.2.2
            have h3 := badB_no.2 (h1 x hx)
            rw [hlen] at h3
            rw [h3] at hx2
            cases hx2)
          go_wp2_with fail
          refine HC.out.mono ?_
          rintro e w2 ⟨rfl, hk2⟩
          have HK2 := hide (HK.out.then hk2)
          clear hk2
          go_wp2_with fail
          try rw [Exit.noGoto_ret]
          go_ret
          exact ⟨ret_int HE.out.symm, HK2.out⟩
        | false =>
          go_wp2_with fail
          refine HC.out.mono ?_
          rintro e w2 ⟨rfl, hk2⟩
          have HK2 := hide (HK.out.then hk2)
          have HB2 := hide (HB.out.keeps hk2 (fun x => x))
          clear hk2
          go_wp2_with fail
          go_roundw
          case rel => exact ⟨k + 1, by omega, by go_num, by rw [HT.out.1]; go_num, by rw [HT.out.1]; omega, fun l' hl' => by
            rw [HT.out.2.2.1] at hl'
            rcases List.mem_append.1 hl' with h | h
            · exact HA.out l' h
            · rw [List.mem_singleton.1 h]; exact HT.out.2.2.2.2, HB2.out, HK2.out⟩
          case measure => simp [intOf]; omega
    · have hkn : k = n := by omega
      subst hkn
      have y9 : ¬ (k : Int) < (k : Int) := by omega
      have hall : next.take k = next := List.take_of_length_le (by omega)
      have HA2 : Hid (∀ l ∈ next, l.any (badB k) = false) := by rw [← hall]; exact HA.out
      have HTt : Hid (total next = t) := by rw [hall] at ht; exact ht
      clear ht hall
      by_cases hbig : 1024 < k
      · have HE : Hid (checkE next = 70) := checkE_bad (fun h => by have := (checkB_iff.1 h).1; omega)
        have g1 : (1024 : Int) < (k : Int) := by omega
        go_wp2_with fail
        try rw [Exit.noGoto_ret]
        go_ret
        exact ⟨ret_int HE.out.symm, HK.out⟩
      · have HE : Hid (checkE next = 0) := if_pos (checkB_iff.2 ⟨by omega, by have := HTt.out; omega, fun l hl x hx => by
          have h1 := HA2.out l hl
          rw [List.any_eq_false] at h1
          have h2 := h1 x hx
          rw [Bool.not_eq_true] at h2
          rw [hlen]
          exact badB_no.1 h2⟩)
        have g1 : ¬ (1024 : Int) < (k : Int) := by omega
        go_wp2_with fail
        try rw [Exit.noGoto_ret]
        go_ret
        exact ⟨ret_int HE.out.symm, HK.out⟩
/-- What is wrong with edges, and with points. -/
def wrongE (next : List (List Int)) (l : List Int) : Int := if checkB next = true then (if l.any (badB next.length) = true then 2 else 0) else 70
theorem wrong_l (a b : Option Addr) (n cap m cap2 : Nat) (next : List (List Int)) (l : List Int) (w : World) (h : Rows w a n next) (h2 : Ints w b m l) :
    Calls Try.prog 44 #[.slice a n cap, .slice b m cap2] w fun e w' => e = .returned (.int .i64 (wrongE next l)) ∧ Keeps Non w w' := by
  have hlen := h.len
  have HBx := hide (Blk.new w [.slice a n cap] 23)
  have cB := HBx.out.cell 0
  simp only [List.getElem?_cons_zero] at cB
  have hk0 := (Keeps.refl Non w).alloc (.cells #[.slice a n cap] 23)
  have HC := hide (check_l a n cap next _ (h.non hk0))
  have HA : Hid (∀ w2, Keeps Non (w.alloc (.cells #[.slice a n cap] 23)) w2 → Calls Try.prog 29 #[.slice b m cap2, .func (.func 68) #[] #[.pointer (some ⟨w.heap.size, 0, none⟩)]] w2 fun e w3 => e = .returned (.bool (l.any (badB n))) ∧ Keeps Non w2 w3) := fun w2 hk => by
    refine contains_int b m cap2 l 68 _ (badB n) w2 ent68 (h2.non (hk0.then hk)) (fun x w' hk' => bad68 x a n cap w.heap.size w' ((HBx.out.keeps hk (fun x => x)).keeps hk' (fun x => x)))
  have HK := hide hk0
  have HW : Hid (wrongE next l = if checkE next = 0 then (if l.any (badB n) = true then 2 else 0) else checkE next) := by
    show _ = _
    unfold wrongE checkE
    rw [hlen]
    split
    · rfl
    · rfl
  obtain ⟨v, hv⟩ : ∃ v, l.any (badB n) = v := ⟨_, rfl⟩
  obtain ⟨c, hc⟩ : ∃ c, checkE next = c := ⟨_, rfl⟩
  rw [hv] at HA HW
  rw [hc] at HC HW
  clear h h2 hk0 hv hc
  by_cases h0 : c = 0
  · subst h0
    rw [if_pos rfl] at HW
    cases v with
    | true =>
      go_enter Try.func44, Try.ntmps44
      go_wp2_with fail
      refine HC.out.mono ?_
      rintro e w2 ⟨rfl, hk⟩
      have HA2 := hide (HA.out w2 hk)
      have HK2 := hide (HK.out.then hk)
      clear hk
      go_wp2_with fail
      refine HA2.out.mono ?_
      rintro e w3 ⟨rfl, hk⟩
      go_wp2_with fail
      go_ret
      exact ⟨ret_int HW.out.symm, HK2.out.then hk⟩
    | false =>
      go_enter Try.func44, Try.ntmps44
      go_wp2_with fail
      refine HC.out.mono ?_
      rintro e w2 ⟨rfl, hk⟩
      have HA2 := hide (HA.out w2 hk)
      have HK2 := hide (HK.out.then hk)
      clear hk
      go_wp2_with fail
      refine HA2.out.mono ?_
      rintro e w3 ⟨rfl, hk⟩
      go_wp2_with fail
      go_ret
      exact ⟨ret_int HW.out.symm, HK2.out.then hk⟩
  · rw [if_neg h0] at HW
    have g1 : (c != 0) = true := by simpa using h0
    go_enter Try.func44, Try.ntmps44
    go_wp2_with fail
    refine HC.out.mono ?_
    rintro e w2 ⟨rfl, hk⟩
    go_wp2_with fail
    go_ret
    exact ⟨ret_int HW.out.symm, HK.out.then hk⟩
end Go.Proofs.Ythpdflpkkiabhaa
