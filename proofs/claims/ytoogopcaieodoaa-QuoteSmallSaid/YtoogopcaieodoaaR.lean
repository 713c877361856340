/-
  The walk over QuoteTexts. No condition.
-/
import Derived.Test.YtoogopcaieodoaaP
import Derived.Test.YtoogopcaieodoaaQ
namespace Go.Proofs.Ytoogopcaieodoaa
open Go.RowKit Go.Shelf
attribute [local go_sem] onto_cell onto_frozen
theorem quote_l (b s : ByteArray) (w : World) (hb : b.size ≤ 1000000) (h : s.data.toList = qtd b.data.toList) :
    Calls Try.prog 11 #[.string b] w fun e w' => e = .returned (.string s) ∧ Keeps Non w w' :=
  (quote_any b w hb).mono fun e w' ⟨he, hk⟩ => ⟨he.trans (by
    have : (⟨#[34]⟩ ++ formS qm b ++ ⟨#[34]⟩ : ByteArray) = s := by
      apply ByteArray.ext
      apply Array.toList_inj.1
      rw [h]
      simp [qtd, formS]
    rw [this]), hk⟩
theorem qtd_len (B : List UInt8) : 2 ≤ (qtd B).length ∧ (qtd B).length ≤ 2 + 4 * B.length := by
  have := formsL_length qm B
  simp [qtd]
  omega
theorem cut_size (a : ByteArray) (n : Nat) : (a.extract 0 n).size ≤ n := by simp; omega
theorem getElem_of {s : ByteArray} {l : List UInt8} {i : Nat} {c : UInt8} (hs : s.data.toList = l) (hi : i < s.size) (h : l[i]? = some c) : ((s[i]'hi).toNat : Int) = (c.toNat : Int) := by
  have e : s.data.toList[i]? = some s[i] := List.getElem?_eq_getElem (l := s.data.toList) hi
  rw [hs, h] at e
  cases e
  rfl
theorem unq_x (s : ByteArray) (w : World) (hs : s.size ≤ 10000) : Calls Try.prog 12 #[.string (⟨#[120]⟩ ++ s)] w fun e w' => e = .returned (.tuple #[.string ⟨#[]⟩, .int .i64 0, .int .i64 21]) ∧ Keeps Non w w' := by
  have hx2 : (⟨#[120]⟩ ++ s : ByteArray).data.toList = 120 :: s.data.toList := by
    rw [ByteArray.data_append, Array.toList_append]
    rfl
  have hz : (⟨#[120]⟩ ++ s : ByteArray).size ≤ 1000000 := by
    rw [ByteArray.size_append]
    show 1 + s.size ≤ _
    omega
  refine aw_unq _ _ w hz ?_
  rw [hx2, unq_other_head]
  rfl
set_option maxHeartbeats 4000000 in
theorem law_texts (a0 a1 : ByteArray) (a2 : Int) (h2 : 0 ≤ a2) (h3 : a2 ≤ 65535) (w : World) :
    Calls Try.prog 4 #[.string a0, .string a1, .int .u16 a2] w fun e w' => e = .returned (.bool true) ∧ Keeps Non w w' := by
  go_enter Try.func4, Try.ntmps4
  go_wp2_with fail
  refine (awake_any _).mono ?_
  rintro e w2 ⟨rfl, hk2⟩
  have HK := hide hk2
  clear hk2
  go_wp2_with fail
  go_region
  obtain ⟨b, hb⟩ : ∃ b, a0.extract 0 (min (a0.size : Int) 150).toNat = b := ⟨_, rfl⟩
  obtain ⟨x, hx⟩ : ∃ x, a1.extract 0 (min (a1.size : Int) 150).toNat = x := ⟨_, rfl⟩
  rw [hb, hx]
  have sb : b.size ≤ 150 := by rw [← hb]; exact Nat.le_trans (cut_size _ _) (by omega)
  have sx : x.size ≤ 150 := by rw [← hx]; exact Nat.le_trans (cut_size _ _) (by omega)
  clear hb hx
  replace HK := hide HK.out.drew
  generalize w2.drew = w3 at *
  obtain ⟨s, hs⟩ : ∃ s : ByteArray, s.data.toList = qtd b.data.toList := ⟨⟨(qtd b.data.toList).toArray⟩, rfl⟩
  have HS := hide hs
  have hl := qtd_len b.data.toList
  rw [← hs] at hl
  replace hl : 2 ≤ s.size ∧ s.size ≤ 2 + 4 * b.size := hl
  obtain ⟨s2, s3⟩ := hl
  have q0 : ((s[0]'(by omega)).toNat : Int) = 34 := getElem_of (c := 34) hs _ rfl
  have q1 : ((s[s.size - 1]'(by omega)).toNat : Int) = 34 := getElem_of (c := 34) hs _ (by
    have : s.size - 1 = (formsL qm b.data.toList).length + 1 := by
      show s.data.toList.length - 1 = _
      rw [hs]
      simp [qtd]
    rw [this]
    simp [qtd])
  have y1 : (1 : Int) ≤ (s.size : Int) := by omega
  have y2 : (2 : Int) ≤ (s.size : Int) := by omega
  obtain ⟨k, hk⟩ : ∃ k : Nat, a2 % (s.size : Int) = (k : Int) := ⟨(a2 % (s.size : Int)).toNat, (Int.toNat_of_nonneg (Int.emod_nonneg _ (by omega))).symm⟩
  have hkl : k < s.size := by
    have := Int.emod_lt_of_pos a2 (show (0 : Int) < s.size by omega)
    omega
  obtain ⟨i, er, hu, hc⟩ := unq_cut b.data.toList k (by rw [← hs]; exact hkl)
  have HU := hide hu
  clear hs hu
  have z1 : ¬ 9223372036854775807 < s.size + x.size := by omega
  have z2 : ¬ 9223372036854775807 < 1 + s.size := by omega
  go_wp2_with fail
  refine (quote_l b s _ (by omega) HS.out).mono ?_
  rintro e w4 ⟨rfl, hk⟩
  replace HK := hide (HK.out.then hk)
  clear hk
  go_wp2_with fail
  refine (aw_unq (s ++ x) (.tuple #[.string b, .int .i64 s.size, .int .i64 0]) _ (by rw [ByteArray.size_append]; omega) (by
    rw [ByteArray.data_append, Array.toList_append, HS.out, unq_texts, ← HS.out]
    rfl)).mono ?_
  rintro e w5 ⟨rfl, hk⟩
  replace HK := hide (HK.out.then hk)
  clear hk
  go_wp2_with fail
  have hx1 : (s.extract 0 k).data.toList = (qtd b.data.toList).take k := by
    rw [Lib.extract_data, HS.out]
    simp
  have k0 : (0 : Int) ≤ (k : Int) := by omega
  have k1 : (k : Int) ≤ (s.size : Int) := by omega
  rw [hk]
  have HQ := hide (fun w => aw_unq (s.extract 0 k) (.tuple #[.string ⟨#[]⟩, .int .i64 i, .int .i64 er]) w (Nat.le_trans (cut_size _ _) (by omega)) (by rw [hx1, HU.out]; rfl))
  refine (HQ.out _).mono ?_
  rintro e w6 ⟨rfl, hk'⟩
  replace HK := hide (HK.out.then hk')
  clear hk' hx1
  go_wp2_with fail
  have HZ := hide (fun w => unq_x s w (by omega))
  refine (HZ.out _).mono ?_
  rintro e w7 ⟨rfl, hk'⟩
  replace HK := hide (HK.out.then hk')
  clear hk'
  have i0 : (0 : Int) ≤ (i : Int) := by omega
  rcases hc with ⟨rfl, c1, c2, c3⟩ | ⟨rfl, rfl⟩
  · have j1 : (i : Int) < (k : Int) := by omega
    have j2 : (0 : Int) < (i : Int) := by omega
    have j3 : (i : Int) < (s.size : Int) := by omega
    have q2 : ((s[i]'(by omega)).toNat : Int) = 92 := getElem_of (c := 92) HS.out _ c3
    clear c3
    go_wp2_with fail
    go_ret
    exact ⟨rfl, HK.out⟩
  · go_wp2_with fail
    go_ret
    exact ⟨rfl, HK.out⟩
end Go.Proofs.Ytoogopcaieodoaa
