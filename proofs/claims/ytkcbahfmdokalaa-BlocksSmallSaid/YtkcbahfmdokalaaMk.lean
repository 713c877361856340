/-
  Walks over layer 6's statements: Made. No condition.
-/
import Derived.Test.YtkcbahfmdokalaaL
import Derived.Maps.AppendAt
namespace Go.Proofs.Ytkcbahfmdokalaa
open Go.RowKit
attribute [local go_sem] onto_cell onto_frozen
set_option linter.unusedVariables false
/-- A partition made of numbers. -/
def madeGo : List Int → Nat → List Int
  | [], _ => []
  | x :: r, n => if x % ((n : Int) + 1) = n then (n : Int) :: madeGo r (n + 1) else x % ((n : Int) + 1) :: madeGo r n
def madeL (xs : List Int) : List Int := madeGo (xs.take 30) 0
theorem madeGo_length : ∀ (L : List Int) (n : Nat), (madeGo L n).length = L.length
  | [], _ => rfl
  | x :: r, n => by
    unfold madeGo
    split <;> simp [madeGo_length r]
theorem madeL_length (xs : List Int) : (madeL xs).length = min 30 xs.length := by
  rw [madeL, madeGo_length, List.length_take]
theorem upTo_snoc (n : Nat) : upTo n ++ [(n : Int)] = upTo (n + 1) := by
  unfold upTo
  rw [List.range_succ, List.map_append]
  rfl
theorem upTo_length (n : Nat) : (upTo n).length = n := by simp [upTo]
theorem upTo_mem {n : Nat} {x : Int} : x ∈ upTo n ↔ 0 ≤ x ∧ x < n := by
  unfold upTo
  rw [List.mem_map]
  constructor
  · rintro ⟨i, hi, rfl⟩
    have := List.mem_range.1 hi
    omega
  · rintro ⟨h1, h2⟩
    exact ⟨x.toNat, List.mem_range.2 (by omega), by omega⟩
theorem upTo_nodup (n : Nat) : (upTo n).Nodup := by
  unfold upTo
  refine List.Pairwise.map _ ?_ List.nodup_range
  intro a b h e
  exact h (by omega)
theorem upTo_idx {n : Nat} {x : Int} (h : x ∈ upTo n) : ((upTo n).idxOf x : Int) = x := by
  have hx := upTo_mem.1 h
  have hl : x.toNat < (upTo n).length := by rw [upTo_length]; omega
  have e : (upTo n)[x.toNat] = x := by
    have h2 := upTo_at (n := n) (i := x.toNat) (by omega)
    rw [getD_num hl] at h2
    omega
  have h3 := List.Nodup.idxOf_getElem (upTo_nodup n) x.toNat hl
  rw [e] at h3
  omega
theorem madeGo_numb : ∀ (L : List Int) (n : Nat), numb (upTo n) (madeGo L n) = madeGo L n
  | [], _ => rfl
  | x :: r, n => by
    have h0 : 0 ≤ x % ((n : Int) + 1) := Int.emod_nonneg _ (by omega)
    have h1 : x % ((n : Int) + 1) < (n : Int) + 1 := Int.emod_lt_of_pos _ (by omega)
    unfold madeGo
    split
    · have hn : ¬ (n : Int) ∈ upTo n := fun h => by have := upTo_mem.1 h; omega
      simp only [numb, if_neg hn, upTo_length, upTo_snoc, madeGo_numb r (n + 1)]
    · rename_i hne
      have hm : x % ((n : Int) + 1) ∈ upTo n := upTo_mem.2 ⟨h0, by omega⟩
      simp only [numb, if_pos hm, upTo_idx hm, madeGo_numb r n]
theorem madeL_isP (xs : List Int) : IsP (madeL xs) := madeGo_numb (xs.take 30) 0
theorem take_pre {xs : List Int} {i m : Nat} (h : i < m) : (xs.take m).getD i 0 = xs.getD i 0 := by
  rw [List.getD_eq_getElem?_getD, List.getElem?_take, if_pos h, List.getD_eq_getElem?_getD]
theorem Byts.pre {w : World} {a : Option Addr} {n m : Nat} {xs : List Int} (h : Byts w a n xs) (hm : m ≤ n) : Byts w a m (xs.take m) :=
  ⟨by rw [List.length_take, h.len]; omega, Nat.le_trans hm h.big, by
    by_cases h0 : m = 0
    · exact .inl h0
    · obtain ⟨b, off, ha, hb, hc⟩ := h.at (by omega)
      exact .inr ⟨b, off, ha, hb, fun i hi => by rw [hc i (by omega), take_pre hi]⟩, fun i => by
    by_cases hi : i < m
    · rw [take_pre hi]; exact h.bd i
    · rw [List.getD_eq_getElem?_getD, List.getElem?_eq_none (by rw [List.length_take]; omega)]
      simp⟩
set_option maxRecDepth 100000 in
set_option maxHeartbeats 8000000 in
theorem made_l (a : Option Addr) (n cap : Nat) (zs : List Int) (w : World) (h : Byts w a n zs) (hr : n ≤ cap ∧ cap ≤ 9223372036854775807) (h0 : a = none → cap = 0) :
    Calls Try.prog 25 #[.slice a n cap] w fun e w' => ∃ v, e = .returned v ∧ GotInts w w' v (madeL zs) := by
  obtain ⟨i0, hi, hz0, hz1, hz2⟩ := info3_parts
  have hbig := h.big
  have HB := hide h
  obtain ⟨r1, r2⟩ := hr
  clear h
  cases a with
  | none =>
    have : cap = 0 := h0 rfl
    subst this
    obtain rfl : n = 0 := by omega
    have hz : zs = [] := List.eq_nil_of_length_eq_zero HB.out.len
    have HN : Hid (GotInts w w (.slice none 0 0) (madeL zs)) := by
      rw [hz]
      exact ⟨none, 0, rfl, Ints.nil _ _, Keeps.refl _ _⟩
    clear hz
    go_enter Try.func25, Try.ntmps25
    go_wp2_with fail
    go_loopw [14, 3] (fun i v wr => i = .int .i64 0 ∧ v = .slice none 0 0 ∧ Hid (w = wr)) (fun i _ _ => 0 - (intOf i).toNat)
    case atStart => exact ⟨rfl, rfl, rfl⟩
    case round =>
      obtain ⟨rfl, rfl, HWr⟩ := hrel
      go_wp2_with fail
      go_ret
      have hn := HN.out
      have hw := HWr.out
      subst hw
      exact ⟨_, rfl, hn⟩
  | some ad =>
    by_cases h30 : 30 < n
    · have hm : (30 : Int) < (n : Int) := by omega
      have HE : Hid (madeL zs = madeGo (zs.take 30) 0) := rfl
      go_enter Try.func25, Try.ntmps25
      go_wp2_with fail
      go_loopw [14, 3, 4] (fun i v t wr => ∃ (k c : Nat) (done : List Int), k ≤ 30 ∧ i = .int .i64 k ∧ t = .int .i64 c ∧ c ≤ k ∧ Hid (madeL zs = done ++ madeGo ((zs.take 30).drop k) c) ∧ Hid (wr.ownsRow w.heap.size 3 1 v k (done.map (Value.int .i64))) ∧ Hid (Keeps Non w wr)) (fun i _ _ _ => 30 - (intOf i).toNat)
      case atStart => exact ⟨0, 0, [], by omega, rfl, rfl, by omega, by show _ = _; rw [HE.out]; rfl, World.ownsRow_nil _ _ _ _, Keeps.refl _ _⟩
      case round =>
        obtain ⟨k, c, done, hk, rfl, rfl, hck, HD, HO, HK⟩ := hrel
        by_cases hlt : k < 30
        · obtain ⟨b, off, hab, hb, hc⟩ := (HB.out.non HK.out).at (by omega)
          cases hab
          have ck := hc k (by omega)
          have hbd := HB.out.bd k
          have hzl : zs.length = n := HB.out.len
          have hdr : (zs.take 30).drop k = zs.getD k 0 :: (zs.take 30).drop (k + 1) := by
            rw [List.drop_eq_getElem_cons (by rw [List.length_take]; omega), List.getElem_take, getD_num (by omega)]
          obtain ⟨x, hx⟩ : ∃ x, zs.getD k 0 = x := ⟨_, rfl⟩
          rw [hx] at ck hbd hdr
          obtain ⟨hb0, hb1⟩ := hbd
          have HDr := hide hdr
          have hkn : (k : Int) < (30 : Int) := by omega
          have c0 : (0 : Int) ≤ (c : Int) := by omega
          have c1 : (c : Int) ≤ 30 := by omega
          clear hx hc hzl hdr
          by_cases hxc : x % ((c : Int) + 1) = c
          · have HDn : Hid (madeL zs = (done ++ [(c : Int)]) ++ madeGo ((zs.take 30).drop (k + 1)) (c + 1)) := by
              show _ = _
              rw [HD.out, HDr.out]
              simp only [madeGo, if_pos hxc, List.append_assoc, List.cons_append, List.nil_append]
            go_wp2_with (at_builtin; refine wpList_append_own _ rfl _ _ 22 rfl w.heap.size 3 i0 (.int .i64 0) 1 8 Try.underlying22 hi hz0 hz1 hz2 rfl (by decide) _ k _ rfl (owns_keeps HO.out ((Keeps.refl Non _).alloc _) (fun _ _ x => x)) ⟨wr.heap.size, 0, none⟩ 1 1 [.int .i64 c] rfl ?pa1 ?pa2 ?pa3 ?pa4 ?pa5 ?pa6 ?_)
            case pa1 => rfl
            case pa2 => exact cell_one_new _ _ _
            case pa3 => first | rfl | (intro u hu; simp at hu; subst hu; rfl)
            case pa4 => unfold maxLen; omega
            case pa5 => omega
            case pa6 => (try simp); have := HK.out.size; omega
            intro v' w5 hown hgrow hnil
            have HG := hide (And.intro hown hgrow)
            clear hown hgrow hnil
            go_wp2_with fail
            go_roundw
            case rel =>
              obtain ⟨hown, hgrow⟩ := HG.out
              refine ⟨k + 1, (c + 1), done ++ [(c : Int)], by omega, by go_num, by go_num, by omega, HDn.out, ?_, keeps_grown (HK.out.alloc _) hgrow (fun g hg => .inr (own_ge HO.out g hg))⟩
              rw [List.map_append]
              exact hown
            case measure => simp [intOf]; omega
          · have HDn : Hid (madeL zs = (done ++ [x % ((c : Int) + 1)]) ++ madeGo ((zs.take 30).drop (k + 1)) c) := by
              show _ = _
              rw [HD.out, HDr.out]
              simp only [madeGo, if_neg hxc, List.append_assoc, List.cons_append, List.nil_append]
            go_wp2_with (at_builtin; refine wpList_append_own _ rfl _ _ 22 rfl w.heap.size 3 i0 (.int .i64 0) 1 8 Try.underlying22 hi hz0 hz1 hz2 rfl (by decide) _ k _ rfl (owns_keeps HO.out ((Keeps.refl Non _).alloc _) (fun _ _ x => x)) ⟨wr.heap.size, 0, none⟩ 1 1 [.int .i64 (x % ((c : Int) + 1))] rfl ?pb1 ?pb2 ?pb3 ?pb4 ?pb5 ?pb6 ?_)
            case pb1 => rfl
            case pb2 => exact cell_one_new _ _ _
            case pb3 => first | rfl | (intro u hu; simp at hu; subst hu; rfl)
            case pb4 => unfold maxLen; omega
            case pb5 => omega
            case pb6 => (try simp); have := HK.out.size; omega
            intro v' w5 hown hgrow hnil
            have HG := hide (And.intro hown hgrow)
            clear hown hgrow hnil
            go_wp2_with fail
            go_roundw
            case rel =>
              obtain ⟨hown, hgrow⟩ := HG.out
              refine ⟨k + 1, c, done ++ [(x % ((c : Int) + 1))], by omega, by go_num, rfl, by omega, HDn.out, ?_, keeps_grown (HK.out.alloc _) hgrow (fun g hg => .inr (own_ge HO.out g hg))⟩
              rw [List.map_append]
              exact hown
            case measure => simp [intOf]; omega
        · obtain rfl : 30 = k := by omega
          have y9 : ¬ (30 : Int) < (30 : Int) := by omega
          have hde : madeL zs = done := by
            rw [HD.out, List.drop_of_length_le (by have := HB.out.len; rw [List.length_take]; omega)]
            simp [madeGo]
          obtain ⟨a6, c6, rfl, hI⟩ := ints_of_owns HO.out (by omega)
          have HN : Hid (GotInts w wr (.slice a6 30 c6) (madeL zs)) := by
            have hl : (madeL zs).length = 30 := by rw [hde]; exact hI.len
            refine ⟨a6, c6, by rw [hl], ?_, HK.out⟩
            rw [hl, hde]
            exact hI
          clear hI hde
          go_wp2_with fail
          go_ret
          exact ⟨_, rfl, HN.out⟩
    · have hm : ¬ (30 : Int) < (n : Int) := by omega
      have HE : Hid (madeL zs = madeGo (zs.take n) 0) := by
        show _ = _
        have := HB.out.len
        rw [madeL, List.take_of_length_le (by omega), List.take_of_length_le (by omega)]
      go_enter Try.func25, Try.ntmps25
      go_wp2_with fail
      go_loopw [14, 3, 4] (fun i v t wr => ∃ (k c : Nat) (done : List Int), k ≤ n ∧ i = .int .i64 k ∧ t = .int .i64 c ∧ c ≤ k ∧ Hid (madeL zs = done ++ madeGo ((zs.take n).drop k) c) ∧ Hid (wr.ownsRow w.heap.size 3 1 v k (done.map (Value.int .i64))) ∧ Hid (Keeps Non w wr)) (fun i _ _ _ => n - (intOf i).toNat)
      case atStart => exact ⟨0, 0, [], by omega, rfl, rfl, by omega, by show _ = _; rw [HE.out]; rfl, World.ownsRow_nil _ _ _ _, Keeps.refl _ _⟩
      case round =>
        obtain ⟨k, c, done, hk, rfl, rfl, hck, HD, HO, HK⟩ := hrel
        by_cases hlt : k < n
        · obtain ⟨b, off, hab, hb, hc⟩ := (HB.out.non HK.out).at (by omega)
          cases hab
          have ck := hc k (by omega)
          have hbd := HB.out.bd k
          have hzl : zs.length = n := HB.out.len
          have hdr : (zs.take n).drop k = zs.getD k 0 :: (zs.take n).drop (k + 1) := by
            rw [List.drop_eq_getElem_cons (by rw [List.length_take]; omega), List.getElem_take, getD_num (by omega)]
          obtain ⟨x, hx⟩ : ∃ x, zs.getD k 0 = x := ⟨_, rfl⟩
          rw [hx] at ck hbd hdr
          obtain ⟨hb0, hb1⟩ := hbd
          have HDr := hide hdr
          have hkn : (k : Int) < (n : Int) := by omega
          have c0 : (0 : Int) ≤ (c : Int) := by omega
          have c1 : (c : Int) ≤ 30 := by omega
          clear hx hc hzl hdr
          by_cases hxc : x % ((c : Int) + 1) = c
          · have HDn : Hid (madeL zs = (done ++ [(c : Int)]) ++ madeGo ((zs.take n).drop (k + 1)) (c + 1)) := by
              show _ = _
              rw [HD.out, HDr.out]
              simp only [madeGo, if_pos hxc, List.append_assoc, List.cons_append, List.nil_append]
            go_wp2_with (at_builtin; refine wpList_append_own _ rfl _ _ 22 rfl w.heap.size 3 i0 (.int .i64 0) 1 8 Try.underlying22 hi hz0 hz1 hz2 rfl (by decide) _ k _ rfl (owns_keeps HO.out ((Keeps.refl Non _).alloc _) (fun _ _ x => x)) ⟨wr.heap.size, 0, none⟩ 1 1 [.int .i64 c] rfl ?qa1 ?qa2 ?qa3 ?qa4 ?qa5 ?qa6 ?_)
            case qa1 => rfl
            case qa2 => exact cell_one_new _ _ _
            case qa3 => first | rfl | (intro u hu; simp at hu; subst hu; rfl)
            case qa4 => unfold maxLen; omega
            case qa5 => omega
            case qa6 => (try simp); have := HK.out.size; omega
            intro v' w5 hown hgrow hnil
            have HG := hide (And.intro hown hgrow)
            clear hown hgrow hnil
            go_wp2_with fail
            go_roundw
            case rel =>
              obtain ⟨hown, hgrow⟩ := HG.out
              refine ⟨k + 1, (c + 1), done ++ [(c : Int)], by omega, by go_num, by go_num, by omega, HDn.out, ?_, keeps_grown (HK.out.alloc _) hgrow (fun g hg => .inr (own_ge HO.out g hg))⟩
              rw [List.map_append]
              exact hown
            case measure => simp [intOf]; omega
          · have HDn : Hid (madeL zs = (done ++ [x % ((c : Int) + 1)]) ++ madeGo ((zs.take n).drop (k + 1)) c) := by
              show _ = _
              rw [HD.out, HDr.out]
              simp only [madeGo, if_neg hxc, List.append_assoc, List.cons_append, List.nil_append]
            go_wp2_with (at_builtin; refine wpList_append_own _ rfl _ _ 22 rfl w.heap.size 3 i0 (.int .i64 0) 1 8 Try.underlying22 hi hz0 hz1 hz2 rfl (by decide) _ k _ rfl (owns_keeps HO.out ((Keeps.refl Non _).alloc _) (fun _ _ x => x)) ⟨wr.heap.size, 0, none⟩ 1 1 [.int .i64 (x % ((c : Int) + 1))] rfl ?qb1 ?qb2 ?qb3 ?qb4 ?qb5 ?qb6 ?_)
            case qb1 => rfl
            case qb2 => exact cell_one_new _ _ _
            case qb3 => first | rfl | (intro u hu; simp at hu; subst hu; rfl)
            case qb4 => unfold maxLen; omega
            case qb5 => omega
            case qb6 => (try simp); have := HK.out.size; omega
            intro v' w5 hown hgrow hnil
            have HG := hide (And.intro hown hgrow)
            clear hown hgrow hnil
            go_wp2_with fail
            go_roundw
            case rel =>
              obtain ⟨hown, hgrow⟩ := HG.out
              refine ⟨k + 1, c, done ++ [(x % ((c : Int) + 1))], by omega, by go_num, rfl, by omega, HDn.out, ?_, keeps_grown (HK.out.alloc _) hgrow (fun g hg => .inr (own_ge HO.out g hg))⟩
              rw [List.map_append]
              exact hown
            case measure => simp [intOf]; omega
        · obtain rfl : n = k := by omega
          have y9 : ¬ (n : Int) < (n : Int) := by omega
          have hde : madeL zs = done := by
            rw [HD.out, List.drop_of_length_le (by have := HB.out.len; rw [List.length_take]; omega)]
            simp [madeGo]
          obtain ⟨a6, c6, rfl, hI⟩ := ints_of_owns HO.out (by omega)
          have HN : Hid (GotInts w wr (.slice a6 n c6) (madeL zs)) := by
            have hl : (madeL zs).length = n := by rw [hde]; exact hI.len
            refine ⟨a6, c6, by rw [hl], ?_, HK.out⟩
            rw [hl, hde]
            exact hI
          clear hI hde
          go_wp2_with fail
          go_ret
          exact ⟨_, rfl, HN.out⟩
end Go.Proofs.Ytkcbahfmdokalaa
