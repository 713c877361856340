/-
  The iterator as a value; ReadBytes. No condition.
-/
import Derived.Test.YtoogopcaieodoaaK
import Derived.RangeFuncFrom
import Derived.RangeFuncBox
import Derived.Maps.AppendAt
namespace Go.Proofs.Ytoogopcaieodoaa
open Go.RowKit Go.Shelf
attribute [local go_sem] onto_cell onto_frozen
attribute [local go_sem] Oper.semAt_some
theorem each_any (m : Mk) (s : ByteArray) (w : World) :
    Calls Try.prog 36 #[.string s, .agg #[.int .u64 m.w0, .int .u64 m.w1, .int .u64 m.w2, .int .u64 m.w3]] w fun e w' => e = .returned (.func (.func 50) #[] #[.pointer (some ⟨w.heap.size, 0, none⟩), .pointer (some ⟨w.heap.size + 1, 0, none⟩)]) ∧
      w' = (w.alloc (.cells #[.string s] 9)).alloc (.cells #[.int .u64 m.w0, .int .u64 m.w1, .int .u64 m.w2, .int .u64 m.w3] 24) := by
  have hmf : ∀ (fn : Fn) (first cap : Array Value) (w : World), (Instr.makeFunc fn first cap).run Try.prog w = .ok (.func fn first cap) w := fun _ _ _ _ => rfl
  go_enter Try.func36, Try.ntmps36
  go_wp2_with fail
  go_ret
  exact ⟨rfl, rfl⟩
theorem each_stops (n : Nat) (hn : 1 ≤ n) (Bs Bm : Nat) (m : Mk) (s : ByteArray) (hs : s.size ≤ 1000000) (w : World) (xs : List (Int × Int)) (hxs : eachF m (s.size + 1) 0 s.data.toList = xs)
    (cs : Blk w Bs [.string s] 9) (cm : Blk w Bm [.int .u64 m.w0, .int .u64 m.w1, .int .u64 m.w2, .int .u64 m.w3] 24) :
    SeqStopsK Fence.wide n Try.prog 50 #[.pointer (some ⟨Bs, 0, none⟩), .pointer (some ⟨Bm, 0, none⟩)] encP (Kq Bs Bm) (· = xs) (· <+: xs) xs.length w :=
  fun l J Jx W hW hJ _ hY h0 =>
    each1_in n hn l Bs Bm W.heap.size m s hs J Jx hJ xs hxs hY W (cs.below hW cs.lt) (cm.below hW cm.lt) h0
/-- The book-keeping of the loop turns neither of the two blocks. -/
theorem kq_b {Bs Bm : Nat} {w : World} (h1 : Bs < w.heap.size) (h2 : Bm < w.heap.size) (W : World) (l : Nat) (o o' : Obj) (hl : w.heap.size ≤ l) (_ho : W.heap[l]? = some o) (_hc : o.isCells = false) (_hw : o.isWalk = false) : Kq Bs Bm W (W.putObj l o') := by
  refine ⟨?_, ?_, ?_⟩
  · simp [World.putObj]
  · simp only [World.putObj]
    rw [Array.getElem?_setIfInBounds_ne (by omega)]
  · simp only [World.putObj]
    rw [Array.getElem?_setIfInBounds_ne (by omega)]
end Go.Proofs.Ytoogopcaieodoaa
