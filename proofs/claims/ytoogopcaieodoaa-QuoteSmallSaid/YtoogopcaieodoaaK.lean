/-
  The iterator of a string's bytes. No condition.
-/
import Derived.Test.YtoogopcaieodoaaJ
import Derived.RangeFuncNested
import Derived.RangeFuncBound
import Derived.RangeFuncCalls
import Derived.RangeFuncLeaves
import Derived.Shelf.Abstract
import Derived.Shelf.RegionOpen
import Derived.Stop.RegionWithIn
import Derived.WalkKit
import Derived.OwnWalkIn
import Derived.TacticsInMore
import Derived.LoopNIn
import Derived.LoopIn
namespace Go.Proofs.Ytoogopcaieodoaa
open Go.RowKit Go.Shelf
attribute [local go_sem] onto_cell onto_frozen
attribute [local go_sem] Oper.semAt_some
/-- What the iterator hands over: the index behind each byte, and the byte. -/
def eachF (m : Mk) : Nat → Nat → List UInt8 → List (Int × Int)
  | 0, _, _ => []
  | _ + 1, _, [] => []
  | f + 1, k, c :: r => ((k : Int) + (rdB m (c :: r)).2.1, (rdB m (c :: r)).1) ::
      (if (rdB m (c :: r)).2.2 ≠ 0 then [] else eachF m f (k + (rdB m (c :: r)).2.1.toNat) ((c :: r).drop (rdB m (c :: r)).2.1.toNat))
def encP (x : Int × Int) : Array Value := #[.int .i64 x.1, .int .u8 x.2]
theorem Keeps.grown {w w' : World} (h : Keeps Non w w') : w.grownBy w' none := ⟨h.os, h.tape, h.output, h.size, fun k hk _ => h.block k hk (fun x => x)⟩
/-- What a round keeps: the two blocks that the iterator reads. -/
def Kq (Bs Bm : Nat) (A B : World) : Prop := A.heap.size ≤ B.heap.size ∧ B.heap[Bs]? = A.heap[Bs]? ∧ B.heap[Bm]? = A.heap[Bm]?
theorem Kq.trans {Bs Bm : Nat} {A B C : World} (h : Kq Bs Bm A B) (k : Kq Bs Bm B C) : Kq Bs Bm A C := ⟨Nat.le_trans h.1 k.1, k.2.1.trans h.2.1, k.2.2.trans h.2.2⟩
set_option maxRecDepth 100000 in
set_option maxHeartbeats 2000000 in
theorem each1_in (n : Nat) (hn : 1 ≤ n) (l Bs Bm B : Nat) (m : Mk) (s : ByteArray) (hs : s.size ≤ 1000000) (J Jx : List (Int × Int) → World → Prop) (hJ : AbidesFrom B J)
    (xs : List (Int × Int)) (hxs : eachF m (s.size + 1) 0 s.data.toList = xs)
    (hY : ∀ pre x W, J pre W → pre.length < xs.length → YieldAt Fence.wide (n - 1) Try.prog l (encP x) W fun e W' =>
      (e = .returned (.bool true) ∧ J (pre ++ [x]) W' ∧ Kq Bs Bm W W') ∨ (e = .returned (.bool false) ∧ Jx (pre ++ [x]) W'))
    (W : World) (cs : Blk W Bs [.string s] 9) (cm : Blk W Bm [.int .u64 m.w0, .int .u64 m.w1, .int .u64 m.w2, .int .u64 m.w3] 24) (h0 : J [] W) :
    CallsIn Fence.wide n Try.prog 50 #[.func (.yield l) #[] #[], .pointer (some ⟨Bs, 0, none⟩), .pointer (some ⟨Bm, 0, none⟩)] W fun e W' => (∃ v, e = .returned v) ∧
      ((∃ ys, ys = xs ∧ J ys W') ∨ (∃ pre, pre <+: xs ∧ Jx pre W')) := by
  obtain ⟨N, hN⟩ : ∃ N, s.size = N := ⟨_, rfl⟩
  have HN := hide hN
  have HCs := hide cs
  have HCm := hide cm
  have HXs := hide hxs
  have HYy := hide hY
  have HJ0 := hide h0
  have HJa := hide hJ
  clear hxs hY cs cm h0 hJ
  refine callsIn_of_wp Try.func50 rfl trivial ?_ rfl
  simp only [Try.ntmps50, List.size_toArray, List.length_cons, List.length_nil, Nat.reduceAdd, Nat.reduceSub, Array.replicate_succ, Array.replicate_zero, List.push_toArray, List.append_toArray, List.nil_append, List.cons_append]
  gi_wp2
  gi_loopw [4] (fun i wr => ∃ (k f : Nat) (pre : List (Int × Int)), k ≤ N ∧ N < k + f ∧ i = .int .i64 k ∧ Hid (J pre wr) ∧ Hid (Blk wr Bs [.string s] 9 ∧ Blk wr Bm [.int .u64 m.w0, .int .u64 m.w1, .int .u64 m.w2, .int .u64 m.w3] 24) ∧ Hid (pre ++ eachF m f k (s.data.toList.drop k) = xs)) (fun i _ => N - (intOf i).toNat)
  case atStart => exact ⟨0, N + 1, [], by omega, by omega, rfl, HJ0.out, ⟨HCs.out, HCm.out⟩, by rw [← HN.out]; exact HXs.out⟩
  case round =>
    obtain ⟨k, f, pre, hk, hf, rfl, hJ, hB, hP⟩ := hrel
    have ls := hB.out.1.lt
    have lm := hB.out.2.lt
    have cs0 : wr.cell? ⟨Bs, 0, none⟩ = some (.string s) := hB.out.1.cell 0
    have cm0 : wr.cell? ⟨Bm, 0, none⟩ = some (.int .u64 m.w0) := hB.out.2.cell 0
    have cm1 : wr.cell? ⟨Bm, 1, none⟩ = some (.int .u64 m.w1) := hB.out.2.cell 1
    have cm2 : wr.cell? ⟨Bm, 2, none⟩ = some (.int .u64 m.w2) := hB.out.2.cell 2
    have cm3 : wr.cell? ⟨Bm, 3, none⟩ = some (.int .u64 m.w3) := hB.out.2.cell 3
    by_cases hlt : k < N
    · have hlt' : k < s.size := by rw [HN.out]; exact hlt
      obtain ⟨f, rfl⟩ : ∃ g, f = g + 1 := ⟨f - 1, by omega⟩
      have hl : (s.extract k N).data.toList = s.data.toList.drop k := by
        rw [Lib.extract_data, List.take_of_length_le]
        rw [List.length_drop]
        have : s.data.toList.length = s.size := rfl
        omega
      have y0 : (0 : Int) ≤ (k : Int) := by omega
      have y1 : (k : Int) < (N : Int) := by omega
      have hlen : (s.data.toList.drop k).length = N - k := by
        rw [List.length_drop, ← HN.out]
        rfl
      have hn1 := rdB_n m (s.data.toList.drop k)
      obtain ⟨⟨b, nn, e⟩, hR⟩ : ∃ x, rdB m (s.data.toList.drop k) = x := ⟨_, rfl⟩
      have HRB := hide (fun w => rb_any m (s.extract k N) w)
      rw [hl, hR] at HRB
      unfold rdT at HRB
      rw [hR, hlen] at hn1
      simp only [] at hn1 HRB
      have hP2 : Hid (pre ++ (((k : Int) + nn, b) :: (if e ≠ 0 then [] else eachF m f (k + nn.toNat) ((s.data.toList.drop k).drop nn.toNat))) = xs) := by
        have h := hP.out
        have hdr : s.data.toList.drop k = s[k] :: s.data.toList.drop (k + 1) := List.drop_eq_getElem_cons (l := s.data.toList) hlt'
        rw [hdr] at h hR ⊢
        simp only [eachF, hR] at h
        exact h
      have hlp : pre.length < xs.length := by
        rw [← hP2.out]
        simp
      have hY1 : Hid (∀ w3, Keeps Non wr w3 → YieldAt Fence.wide (n - 1) Try.prog l (encP ((k : Int) + nn, b)) w3 fun e W' =>
          (e = .returned (.bool true) ∧ J (pre ++ [((k : Int) + nn, b)]) W' ∧ Kq Bs Bm w3 W') ∨ (e = .returned (.bool false) ∧ Jx (pre ++ [((k : Int) + nn, b)]) W')) :=
        fun w3 hk3 => HYy.out pre _ w3 (HJa.out pre wr w3 none hJ.out hk3.grown (fun r h => by cases h)) hlp
      clear hP hR hl HYy
      rcases hn1 with ⟨rfl, hn1, hn2⟩ | ⟨rfl, rfl, rfl⟩
      · obtain ⟨j, rfl⟩ := Int.eq_ofNat_of_zero_le (show 0 ≤ nn by omega)
        have hP3 : Hid ((pre ++ [((k : Int) + (j : Int), b)]) ++ eachF m f (k + j) (s.data.toList.drop (k + j)) = xs) := by
          have h := hP2.out
          rw [if_neg (by simp), Int.toNat_natCast, List.drop_drop] at h
          show _ = _
          rw [List.append_assoc]
          exact h
        clear hP2
        gi_wp2
        gi_region_with (first | (refine ⟨trivial, ?_⟩; gi_at_call 20; refine (callsIn_wide.2 (HRB.out _)).mono ?_; rintro e w3 ⟨rfl, hk3⟩))
        all_goals
          have hk4 : Keeps Non wr w3 := ((Keeps.refl Non wr).drew).then hk3
          obtain ⟨fn, tmps, assign, body, hy, hRd⟩ := hY1.out w3 hk4
          dsimp only [encP] at hy
          gi_wp2
          refine hRd.mono ?_
          rintro e W3 (⟨rfl, hJ3, hb3⟩ | ⟨rfl, hJx3⟩)
          · gi_wp2
            go_roundw
            case rel => exact ⟨k + j, f, _, by omega, by omega, by go_num, hJ3, ⟨(hB.out.1.keeps hk4 (fun x => x)).of_eq hb3.2.1, (hB.out.2.keeps hk4 (fun x => x)).of_eq hb3.2.2⟩, hP3.out⟩
            case measure => simp [intOf]; omega
          · gi_wp2
            refine bodyPost_ret (results_none rfl _ _ _) rfl ?_
            exact ⟨⟨_, rfl⟩, .inr ⟨_, ⟨_, hP3.out⟩, hJx3⟩⟩
      · have hP3 : Hid (pre ++ [((k : Int) + 0, 0)] = xs) := by
          have h := hP2.out
          rw [if_pos (by simp)] at h
          exact h
        clear hP2
        gi_wp2
        gi_region_with (first | (refine ⟨trivial, ?_⟩; gi_at_call 20; refine (callsIn_wide.2 (HRB.out _)).mono ?_; rintro e w3 ⟨rfl, hk3⟩))
        all_goals
          have hk4 : Keeps Non wr w3 := ((Keeps.refl Non wr).drew).then hk3
          obtain ⟨fn, tmps, assign, body, hy, hRd⟩ := hY1.out w3 hk4
          simp only [encP, Int.add_zero] at hy
          gi_wp2
          refine hRd.mono ?_
          rintro e W3 (⟨rfl, hJ3, hb3⟩ | ⟨rfl, hJx3⟩)
          · gi_wp2
            refine bodyPost_ret (results_none rfl _ _ _) rfl ?_
            exact ⟨⟨_, rfl⟩, .inl ⟨_, hP3.out, hJ3⟩⟩
          · gi_wp2
            refine bodyPost_ret (results_none rfl _ _ _) rfl ?_
            exact ⟨⟨_, rfl⟩, .inr ⟨_, ⟨[], by rw [List.append_nil]; exact hP3.out⟩, hJx3⟩⟩
    · gi_wp2
      go_end0
      refine ⟨⟨_, rfl⟩, .inl ⟨_, ?_, hJ.out⟩⟩
      have h := hP.out
      rw [List.drop_of_length_le (by have : s.data.toList.length = s.size := rfl; omega)] at h
      obtain ⟨g, rfl⟩ : ∃ g, f = g + 1 := ⟨f - 1, by omega⟩
      simpa only [eachF, List.append_nil] using h
end Go.Proofs.Ytoogopcaieodoaa
