/-
  The reference: has, Check; few. No condition.
-/
import Derived.Test.YthpdflpkkiabhaaCk
import Derived.Test.YthpdflpkkiabhaaMs
namespace Go.Proofs.Ythpdflpkkiabhaa
open Go.RowKit
attribute [local go_sem] onto_cell onto_frozen
set_option linter.unusedVariables false
theorem take_has {xs : List Int} {k : Nat} (h : k < xs.length) (x : Int) : x ∈ xs.take (k + 1) ↔ x ∈ xs.take k ∨ xs.getD k 0 = x := by
  rw [List.take_succ_eq_append_getElem h, List.mem_append, List.mem_singleton, getD_num h]
  exact or_congr_right ⟨Eq.symm, Eq.symm⟩
set_option maxRecDepth 100000 in
set_option maxHeartbeats 2000000 in
theorem has_l (a : Option Addr) (n cap : Nat) (xs : List Int) (x : Int) (w : World) (h : Ints w a n xs) :
    Calls Try.prog 73 #[.slice a n cap, .int .i64 x] w fun e w' => e = .returned (.bool (decide (x ∈ xs))) ∧ Keeps Non w w' := by
  have hn := h.big
  have HX := hide h
  clear h
  go_enter Try.func73, Try.ntmps73
  go_wp2_with fail
  go_loopw [5] (fun i wr => ∃ k : Nat, k ≤ n ∧ i = .int .i64 k ∧ Hid (Keeps Non w wr) ∧ Hid (x ∉ xs.take k)) (fun i _ => n - (intOf i).toNat)
  case atStart => exact ⟨0, Nat.zero_le _, rfl, Keeps.refl _ _, by show _ ∉ _; simp⟩
  case round =>
    obtain ⟨k, hk, rfl, HK, HA⟩ := hrel
    have hxl : xs.length = n := HX.out.len
    by_cases hlt : k < n
    · obtain ⟨b1, o1, rfl, hb1, hc1⟩ := (HX.out.non HK.out).at (by omega)
      have ck := hc1 k hlt
      have hth := take_has (xs := xs) (k := k) (by omega) x
      obtain ⟨y, hy⟩ : ∃ y, xs.getD k 0 = y := ⟨_, rfl⟩
      rw [hy] at ck hth
      have z0 : (0 : Int) ≤ (k : Int) := by omega
      have z1 : (k : Int) < (n : Int) := by omega
      by_cases hyx : y = x
      · have g1 : (y == x) = true := by simpa using hyx
        have HM : Hid (x ∈ xs) := List.mem_of_mem_take (hth.2 (.inr hyx))
        clear hc1 hth hy hyx hxl
        go_wp2_with fail
        try rw [Exit.noGoto_ret]
        go_ret
        exact ⟨ret_bool (by rw [decide_eq_true HM.out]), HK.out⟩
      · have g1 : (y == x) = false := by simpa using hyx
        have HM : Hid (x ∉ xs.take (k + 1)) := fun hm => (hth.1 hm).elim HA.out hyx
        clear hc1 hth hy hyx hxl
        go_wp2_with fail
        go_roundw
        case rel => exact ⟨k + 1, by omega, by go_num, HK.out, HM.out⟩
        case measure => simp [intOf]; omega
    · have hkn : k = n := by omega
      subst hkn
      have HM : Hid (x ∉ xs) := by
        have := HA.out
        rwa [List.take_of_length_le (by omega)] at this
      have y9 : ¬ (k : Int) < (k : Int) := by omega
      clear hxl
      go_wp2_with fail
      try rw [Exit.noGoto_ret]
      go_ret
      exact ⟨ret_bool (by rw [decide_eq_false HM.out]), HK.out⟩
/-- Whether edges are few. -/
def fewB (next : List (List Int)) : Bool := decide (next.length ≤ 25) && decide (total (next.take 26) ≤ 200)
theorem fewB_iff {next : List (List Int)} : fewB next = true ↔ next.length ≤ 25 ∧ total next ≤ 200 := by
  unfold fewB
  rw [Bool.and_eq_true, decide_eq_true_iff, decide_eq_true_iff]
  constructor
  · rintro ⟨h1, h2⟩
    rw [List.take_of_length_le (by omega)] at h2
    exact ⟨h1, h2⟩
  · rintro ⟨h1, h2⟩
    rw [List.take_of_length_le (by omega)]
    exact ⟨h1, h2⟩
theorem total_take_bd {next : List (List Int)} (h : ∀ i, (next.getD i []).length ≤ 17592186044416) : ∀ k, k ≤ next.length → total (next.take k) ≤ k * 17592186044416
  | 0, _ => by simp [total]
  | k + 1, hk => by
    have h1 := total_take_bd h k (by omega)
    have h2 := h k
    rw [total_take_succ (next := next) (k := k) (by omega)]
    omega
set_option maxRecDepth 100000 in
set_option maxHeartbeats 2000000 in
theorem few_l (a : Option Addr) (n cap : Nat) (next : List (List Int)) (w : World) (hl : next.length = n) (hc : n = 0 ∨ ∃ b off, a = some ⟨b, off, none⟩ ∧ b < w.heap.size ∧ ∀ i, i < n → ∃ ai ci, w.cell? ⟨b, off + i, none⟩ = some (.slice ai (next.getD i []).length ci)) (hb : ∀ i, (next.getD i []).length ≤ 17592186044416) (hroom : n ≤ cap ∧ cap ≤ 9223372036854775807) (hnil : a = none → cap = 0) :
    Calls Try.prog 32 #[.slice a n cap] w fun e w' => e = .returned (.bool (fewB next)) ∧ Keeps Non w w' := by
  have HB := hide hb
  have HT := hide (total_take_bd hb)
  have HLn := hide hl
  obtain ⟨lim, hlim⟩ : ∃ lim, min n 26 = lim := ⟨_, rfl⟩
  have hlm : lim ≤ n ∧ lim ≤ 26 ∧ lim ≤ cap := by omega
  have hmin : min (n : Int) 26 = (lim : Int) := by omega
  have l0 : (0 : Int) ≤ (lim : Int) := by omega
  have l1 : (lim : Int) ≤ (cap : Int) := by omega
  have HLi := hide hlim
  have HTk : Hid (next.take 26 = next.take lim) := by
    show _ = _
    by_cases h : n ≤ 26
    · rw [List.take_of_length_le (by omega), List.take_of_length_le (by omega)]
    · rw [show lim = 26 by omega]
  by_cases h0 : n = 0
  · subst h0
    have hx : next = [] := List.eq_nil_of_length_eq_zero hl
    subst hx
    obtain rfl : lim = 0 := by omega
    clear hl hc hb HB HT HLn HTk HLi hlim
    cases a with
    | none =>
      have hc0 := hnil rfl
      subst hc0
      clear hnil hroom
      go_enter Try.func32, Try.ntmps32
      go_wp2_with fail
      go_loopw [3, 12] (fun s i wr => i = .int .i64 0 ∧ s = .int .i64 0 ∧ Hid (Keeps Non w wr)) (fun _ i _ => 0)
      case atStart => exact ⟨rfl, rfl, Keeps.refl _ _⟩
      case round =>
        obtain ⟨rfl, rfl, HK⟩ := hrel
        go_wp2_with fail
        try rw [Exit.noGoto_ret]
        go_ret
        exact ⟨rfl, HK.out⟩
    | some ad =>
      obtain ⟨ab, ao, asp⟩ := ad
      clear hnil
      go_enter Try.func32, Try.ntmps32
      go_wp2_with fail
      go_loopw [3, 12] (fun s i wr => i = .int .i64 0 ∧ s = .int .i64 0 ∧ Hid (Keeps Non w wr)) (fun _ i _ => 0)
      case atStart => exact ⟨rfl, rfl, Keeps.refl _ _⟩
      case round =>
        obtain ⟨rfl, rfl, HK⟩ := hrel
        go_wp2_with fail
        try rw [Exit.noGoto_ret]
        go_ret
        exact ⟨rfl, HK.out⟩
  · obtain ⟨b, off, rfl, lb, hcc⟩ := hc.resolve_left h0
    have HCc := hide hcc
    clear hc hl hb hnil hcc hlim
    go_enter Try.func32, Try.ntmps32
    go_wp2_with fail
    go_loopw [3, 12] (fun s i wr => ∃ k : Nat, k ≤ lim ∧ i = .int .i64 k ∧ s = .int .i64 ((total (next.take k) : Nat) : Int) ∧ Hid (Keeps Non w wr)) (fun _ i _ => lim - (intOf i).toNat)
    case atStart => exact ⟨0, by omega, rfl, rfl, Keeps.refl _ _⟩
    case round =>
      obtain ⟨k, hk, rfl, rfl, HK⟩ := hrel
      have htk := HT.out k (by have := HLn.out; omega)
      by_cases hlt : k < lim
      · obtain ⟨ai, ci, cr0⟩ := HCc.out k (by omega)
        have cr := (HK.out.cell (p := ⟨b, off + k, none⟩) lb (fun x => x)).trans cr0
        have hts := total_take_succ (next := next) (k := k) (by have := HLn.out; omega)
        have hbk := HB.out k
        obtain ⟨ln, hln⟩ : ∃ l, (next.getD k []).length = l := ⟨_, rfl⟩
        obtain ⟨tk, htk2⟩ : ∃ l, total (next.take k) = l := ⟨_, rfl⟩
        rw [hln] at cr hts hbk
        rw [htk2] at hts htk ⊢
        have HTs := hide hts
        have z0 : (0 : Int) ≤ (k : Int) := by omega
        have z1 : (k : Int) < (lim : Int) := by omega
        have z2 : IntKind.i64.wrap ((tk : Int) + (ln : Int)) = (tk : Int) + (ln : Int) := IntWalk.i64_in _ (by omega)
        clear cr0 hln htk2 hts
        go_wp2_with fail
        go_roundw
        case rel => exact ⟨k + 1, by omega, by go_num, by rw [HTs.out]; go_num, HK.out⟩
        case measure => simp [intOf]; omega
      · have hkl : k = lim := by omega
        subst hkl
        have y9 : ¬ (k : Int) < (k : Int) := by omega
        obtain ⟨tk, htk2⟩ : ∃ l, total (next.take k) = l := ⟨_, rfl⟩
        have HE : Hid (fewB next = (decide (n ≤ 25) && decide (tk ≤ 200))) := by
          show _ = _
          unfold fewB
          rw [HLn.out, HTk.out, htk2]
        rw [htk2] at htk ⊢
        clear htk2
        by_cases g1 : n ≤ 25
        · have g2 : decide (n ≤ 25) = true := decide_eq_true g1
          have g3 : decide ((n : Int) ≤ 25) = true := decide_eq_true (by omega)
          by_cases g4 : tk ≤ 200
          · have g5 : decide ((tk : Int) ≤ 200) = true := decide_eq_true (by omega)
            have g6 : decide (tk ≤ 200) = true := decide_eq_true g4
            go_wp2_with fail
            try rw [Exit.noGoto_ret]
            go_ret
            exact ⟨ret_bool (by rw [HE.out]; simp [g1, g4]), HK.out⟩
          · have g5 : decide ((tk : Int) ≤ 200) = false := decide_eq_false (by omega)
            have g6 : decide (tk ≤ 200) = false := decide_eq_false g4
            go_wp2_with fail
            try rw [Exit.noGoto_ret]
            go_ret
            exact ⟨ret_bool (by rw [HE.out]; simp [g1, g4]), HK.out⟩
        · have g2 : decide (n ≤ 25) = false := decide_eq_false g1
          have g3 : decide ((n : Int) ≤ 25) = false := decide_eq_false (by omega)
          go_wp2_with fail
          try rw [Exit.noGoto_ret]
          go_ret
          exact ⟨ret_bool (by rw [HE.out]; simp [g1]), HK.out⟩
end Go.Proofs.Ythpdflpkkiabhaa
