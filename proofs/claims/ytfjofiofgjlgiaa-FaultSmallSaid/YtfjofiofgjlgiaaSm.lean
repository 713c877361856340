/-
  The walk over FaultSmall. No condition.
-/
import Derived.Test.YtfjofiofgjlgiaaLaw
import Derived.Test.YtfjofiofgjlgiaaFew
import Derived.RegionTactic
import Derived.Deep.RegionWith
namespace Go.Proofs.Ytfjofiofgjlgiaa
open Go.RowKit
/-- The eight steps. -/
def E8 : List Step3 := [(1, 1, 0), (1, 3, 0), (2, 0, 0), (3, 2, 1), (3, 2, 2), (4, 2, 7), (5, 1, 0), (4, 3, 0)]
theorem stp_blk {w : World} {b : Nat} {xs : List Step3} (h : Blk w b (xs.flatMap sc) 62) (bd : ∀ i, 0 ≤ (xs.getD i (0, 0, 0)).1 ∧ (xs.getD i (0, 0, 0)).1 ≤ 255 ∧ (xs.getD i (0, 0, 0)).2.1 ≤ 9223372036854775807) : Stp w (some ⟨b, 0, none⟩) xs.length xs :=
  ⟨rfl, .inr ⟨b, 0, rfl, h.lt, fun i hi => by
    have a0 := rows_at xs i 0 hi (by omega)
    have a1 := rows_at xs i 1 hi (by omega)
    have a2 := rows_at xs i 2 hi (by omega)
    exact ⟨(h.cell _).trans (by rw [Nat.zero_add]; exact a0), (h.cell _).trans (by rw [Nat.zero_add]; exact a1), (h.cell _).trans (by rw [Nat.zero_add]; exact a2)⟩⟩, bd⟩
theorem stp_tail {w : World} {b : Nat} {x : Step3} {xs : List Step3} (h : Blk w b ((x :: xs).flatMap sc) 62) (bd : ∀ i, 0 ≤ (xs.getD i (0, 0, 0)).1 ∧ (xs.getD i (0, 0, 0)).1 ≤ 255 ∧ (xs.getD i (0, 0, 0)).2.1 ≤ 9223372036854775807) : Stp w (some ⟨b, 3, none⟩) xs.length xs :=
  ⟨rfl, .inr ⟨b, 3, rfl, h.lt, fun i hi => by
    have hi' : i + 1 < (x :: xs).length := by simpa using hi
    have a0 := rows_at (x :: xs) (i + 1) 0 hi' (by omega)
    have a1 := rows_at (x :: xs) (i + 1) 1 hi' (by omega)
    have a2 := rows_at (x :: xs) (i + 1) 2 hi' (by omega)
    have e0 : 3 + i * 3 = (i + 1) * 3 + 0 := by omega
    rw [e0]
    exact ⟨(h.cell _).trans a0, (h.cell _).trans a1, (h.cell _).trans a2⟩⟩, bd⟩
theorem stp_init {w : World} {b : Nat} {x : Step3} {xs : List Step3} (h : Blk w b ((xs ++ [x]).flatMap sc) 62) (bd : ∀ i, 0 ≤ (xs.getD i (0, 0, 0)).1 ∧ (xs.getD i (0, 0, 0)).1 ≤ 255 ∧ (xs.getD i (0, 0, 0)).2.1 ≤ 9223372036854775807) : Stp w (some ⟨b, 0, none⟩) xs.length xs :=
  ⟨rfl, .inr ⟨b, 0, rfl, h.lt, fun i hi => by
    have hi' : i < (xs ++ [x]).length := by simp; omega
    have a0 := rows_at (xs ++ [x]) i 0 hi' (by omega)
    have a1 := rows_at (xs ++ [x]) i 1 hi' (by omega)
    have a2 := rows_at (xs ++ [x]) i 2 hi' (by omega)
    have e : (xs ++ [x]).getD i (0, 0, 0) = xs.getD i (0, 0, 0) := by
      rw [List.getD_eq_getElem?_getD, List.getElem?_append_left hi, ← List.getD_eq_getElem?_getD]
    rw [e] at a0 a1 a2
    exact ⟨(h.cell _).trans (by rw [Nat.zero_add]; exact a0), (h.cell _).trans (by rw [Nat.zero_add]; exact a1), (h.cell _).trans (by rw [Nat.zero_add]; exact a2)⟩⟩, bd⟩
theorem stp_none (w : World) (a : Option Addr) : Stp w a 0 [] := ⟨rfl, .inl rfl, fun i => by simp⟩
def Sok (x : Step3) : Prop := 0 ≤ x.1 ∧ x.1 ≤ 255 ∧ x.2.1 ≤ 9223372036854775807
theorem bd_of {xs : List Step3} (h : ∀ x ∈ xs, Sok x) (i : Nat) : 0 ≤ (xs.getD i (0, 0, 0)).1 ∧ (xs.getD i (0, 0, 0)).1 ≤ 255 ∧ (xs.getD i (0, 0, 0)).2.1 ≤ 9223372036854775807 := by
  rw [List.getD_eq_getElem?_getD]
  cases e : xs[i]? with
  | none => simp
  | some x => exact h x (List.mem_of_getElem? e)
theorem e8_ok : ∀ x ∈ E8, Sok x := by
  intro x hx
  simp only [E8, List.mem_cons, List.not_mem_nil, or_false] at hx
  rcases hx with rfl | rfl | rfl | rfl | rfl | rfl | rfl | rfl
  all_goals
    unfold Sok
    decide
/-- One of the eight steps, read. -/
theorem e8_at {w : World} {b : Nat} (h : Blk w b (E8.flatMap sc) 62) (p : Nat) (hp : p < 8) : ∃ x : Step3, x ∈ E8 ∧ w.cell? ⟨b, p * 3, none⟩ = some (.int .u8 x.1) ∧ w.cell? ⟨b, p * 3 + 1, none⟩ = some (.int .i64 x.2.1) ∧ w.cell? ⟨b, p * 3 + 2, none⟩ = some (.int .i64 x.2.2) := by
  have h8 : p < E8.length := hp
  obtain ⟨_, hst, -⟩ := stp_blk h (bd_of e8_ok)
  obtain ⟨b', off, e, -, hc⟩ := hst.resolve_left (by simp [E8])
  simp only [Option.some.injEq, Addr.mk.injEq, and_true] at e
  obtain ⟨rfl, rfl⟩ := e
  have := hc p hp
  simp only [Nat.zero_add] at this
  refine ⟨_, ?_, this⟩
  rw [List.getD_eq_getElem?_getD, List.getElem?_eq_getElem h8]
  exact List.getElem_mem h8
/-- Four slices of steps, in a block. -/
theorem rws4 {w : World} {b : Nat} {t : TypeId} {a0 a1 a2 a3 : Option Addr} {c0 c1 c2 c3 : Nat} {x0 x1 x2 x3 : List Step3}
    (h : Blk w b [.slice a0 x0.length c0, .slice a1 x1.length c1, .slice a2 x2.length c2, .slice a3 x3.length c3] t)
    (h0 : Stp w a0 x0.length x0) (h1 : Stp w a1 x1.length x1) (h2 : Stp w a2 x2.length x2) (h3 : Stp w a3 x3.length x3) : Rws w (some ⟨b, 0, none⟩) 4 [x0, x1, x2, x3] :=
  ⟨rfl, .inr ⟨b, 0, rfl, h.lt, fun i hi => by
    obtain rfl | rfl | rfl | rfl : i = 0 ∨ i = 1 ∨ i = 2 ∨ i = 3 := by omega
    · exact ⟨a0, c0, h.cell 0, h0⟩
    · exact ⟨a1, c1, h.cell 1, h1⟩
    · exact ⟨a2, c2, h.cell 2, h2⟩
    · exact ⟨a3, c3, h.cell 3, h3⟩⟩⟩
theorem all4 {x0 x1 x2 x3 : List Step3} (h0 : x0.length ≤ 12) (h1 : x1.length ≤ 12) (h2 : x2.length ≤ 12) (h3 : x3.length ≤ 12) (i : Nat) : ([x0, x1, x2, x3].getD i []).length ≤ 12 := by
  match i with
  | 0 => exact h0
  | 1 => exact h1
  | 2 => exact h2
  | 3 => exact h3
  | n + 4 => simp
theorem hsz (w : World) (o : Obj) : (w.alloc o).heap.size = w.heap.size + 1 := by
  show (w.heap.push o).size = _
  simp
theorem sok2 {x y : Step3} (hx : Sok x) (hy : Sok y) : ∀ z ∈ [x, y], Sok z := by
  intro z hz
  simp only [List.mem_cons, List.not_mem_nil, or_false] at hz
  rcases hz with rfl | rfl <;> assumption
theorem sok3 {x y u : Step3} (hx : Sok x) (hy : Sok y) (hu : Sok u) : ∀ z ∈ [x, y, u], Sok z := by
  intro z hz
  simp only [List.mem_cons, List.not_mem_nil, or_false] at hz
  rcases hz with rfl | rfl | rfl <;> assumption
/-- The runs of the first loop. -/
theorem runs_w1 (f : Int) (w : World) (p0 p1 p2 q0 q1 q2 r0 r1 r2 : Int) (hp : Sok (p0, p1, p2)) (hq : Sok (q0, q1, q2)) (hr : Sok (r0, r1, r2)) :
    Calls Try.prog 35 #[.int .i64 f, .slice (some ⟨w.heap.size + 1 + 1, 0, none⟩) 4 4]
      (((w.alloc (.cells #[.int .u8 p0, .int .i64 p1, .int .i64 p2, .int .u8 q0, .int .i64 q1, .int .i64 q2, .int .u8 r0, .int .i64 r1, .int .i64 r2] 62)).alloc (.cells #[] 62)).alloc
        (.cells #[.slice (some ⟨w.heap.size, 0, none⟩) 3 3, .slice (some ⟨w.heap.size, 0, none⟩) 2 3, .slice (some ⟨w.heap.size, 3, none⟩) 2 2, .slice (some ⟨w.heap.size + 1, 0, none⟩) 0 0] 59)).drew.drew
      fun e w' => e = .returned (.bool true) ∧ Keeps Non w w' := by
  obtain ⟨W, hW⟩ : ∃ W, (((w.alloc (.cells #[.int .u8 p0, .int .i64 p1, .int .i64 p2, .int .u8 q0, .int .i64 q1, .int .i64 q2, .int .u8 r0, .int .i64 r1, .int .i64 r2] 62)).alloc (.cells #[] 62)).alloc
        (.cells #[.slice (some ⟨w.heap.size, 0, none⟩) 3 3, .slice (some ⟨w.heap.size, 0, none⟩) 2 3, .slice (some ⟨w.heap.size, 3, none⟩) 2 2, .slice (some ⟨w.heap.size + 1, 0, none⟩) 0 0] 59)).drew.drew = W := ⟨_, rfl⟩
  have hk : Keeps Non w W := by rw [← hW]; exact (((((Keeps.refl _ _).alloc _).alloc _).alloc _).drew).drew
  have hb : Blk W w.heap.size (([(p0, p1, p2), (q0, q1, q2), (r0, r1, r2)] : List Step3).flatMap sc) 62 := by
    rw [← hW]
    exact ((((Blk.new w (([(p0, p1, p2), (q0, q1, q2), (r0, r1, r2)] : List Step3).flatMap sc) 62).alloc _).alloc _).drew).drew
  have hr4 : Blk W (w.heap.size + 1 + 1) [.slice (some ⟨w.heap.size, 0, none⟩) 3 3, .slice (some ⟨w.heap.size, 0, none⟩) 2 3, .slice (some ⟨w.heap.size, 3, none⟩) 2 2, .slice (some ⟨w.heap.size + 1, 0, none⟩) 0 0] 59 := by
    rw [← hW]
    exact ((Blk.newAt _ [.slice (some ⟨w.heap.size, 0, none⟩) 3 3, .slice (some ⟨w.heap.size, 0, none⟩) 2 3, .slice (some ⟨w.heap.size, 3, none⟩) 2 2, .slice (some ⟨w.heap.size + 1, 0, none⟩) 0 0] 59 (by rw [hsz, hsz])).drew).drew
  rw [hW]
  have R := rws4 (x0 := [(p0, p1, p2), (q0, q1, q2), (r0, r1, r2)]) (x1 := [(p0, p1, p2), (q0, q1, q2)]) (x2 := [(q0, q1, q2), (r0, r1, r2)]) (x3 := []) hr4
    (stp_blk hb (bd_of (sok3 hp hq hr))) (stp_init (x := (r0, r1, r2)) (xs := [(p0, p1, p2), (q0, q1, q2)]) hb (bd_of (sok2 hp hq))) (stp_tail (x := (p0, p1, p2)) hb (bd_of (sok2 hq hr))) (stp_none _ _)
  exact (runs_any f _ 4 4 _ W R (by omega) (all4 (by simp) (by simp) (by simp) (by simp))).mono fun e w' ⟨he, h⟩ => ⟨he, hk.then h⟩
/-- The numbers at their limits. -/
def EN : List Int := [-9223372036854775808, -1, 0, 1, 2, 1048576, 1048577, 9223372036854775807]
theorem en_at {w : World} {b : Nat} (h : Blk w b (EN.map (Value.int .i64)) 3) (k : Nat) (hk : k < 8) : ∃ n : Int, n ≤ 9223372036854775807 ∧ w.cell? ⟨b, k, none⟩ = some (.int .i64 n) := by
  obtain rfl | rfl | rfl | rfl | rfl | rfl | rfl | rfl : k = 0 ∨ k = 1 ∨ k = 2 ∨ k = 3 ∨ k = 4 ∨ k = 5 ∨ k = 6 ∨ k = 7 := by omega
  · exact ⟨_, by decide, h.cell 0⟩
  · exact ⟨_, by decide, h.cell 1⟩
  · exact ⟨_, by decide, h.cell 2⟩
  · exact ⟨_, by decide, h.cell 3⟩
  · exact ⟨_, by decide, h.cell 4⟩
  · exact ⟨_, by decide, h.cell 5⟩
  · exact ⟨_, by decide, h.cell 6⟩
  · exact ⟨_, by decide, h.cell 7⟩
/-- The runs of the second loop. -/
theorem runs_w2 (n : Int) (hn : n ≤ 9223372036854775807) (w : World) :
    Calls Try.prog 35 #[.int .i64 n, .slice (some ⟨w.heap.size + 1 + 1 + 1 + 1, 0, none⟩) 4 4]
      (((((w.alloc (.cells #[.int .u8 1, .int .i64 n, .int .i64 0, .int .u8 1, .int .i64 1, .int .i64 0] 62)).alloc (.cells #[.int .u8 2, .int .i64 0, .int .i64 0, .int .u8 1, .int .i64 n, .int .i64 0] 62)).alloc
        (.cells #[.int .u8 3, .int .i64 5, .int .i64 n, .int .u8 4, .int .i64 1, .int .i64 n] 62)).alloc (.cells #[.int .u8 4, .int .i64 n, .int .i64 n] 62)).alloc
        (.cells #[.slice (some ⟨w.heap.size, 0, none⟩) 2 2, .slice (some ⟨w.heap.size + 1, 0, none⟩) 2 2, .slice (some ⟨w.heap.size + 1 + 1, 0, none⟩) 2 2, .slice (some ⟨w.heap.size + 1 + 1 + 1, 0, none⟩) 1 1] 59))
      fun e w' => e = .returned (.bool true) ∧ Keeps Non w w' := by
  obtain ⟨W, hW⟩ : ∃ W, (((((w.alloc (.cells #[.int .u8 1, .int .i64 n, .int .i64 0, .int .u8 1, .int .i64 1, .int .i64 0] 62)).alloc (.cells #[.int .u8 2, .int .i64 0, .int .i64 0, .int .u8 1, .int .i64 n, .int .i64 0] 62)).alloc
        (.cells #[.int .u8 3, .int .i64 5, .int .i64 n, .int .u8 4, .int .i64 1, .int .i64 n] 62)).alloc (.cells #[.int .u8 4, .int .i64 n, .int .i64 n] 62)).alloc
        (.cells #[.slice (some ⟨w.heap.size, 0, none⟩) 2 2, .slice (some ⟨w.heap.size + 1, 0, none⟩) 2 2, .slice (some ⟨w.heap.size + 1 + 1, 0, none⟩) 2 2, .slice (some ⟨w.heap.size + 1 + 1 + 1, 0, none⟩) 1 1] 59)) = W := ⟨_, rfl⟩
  have hk : Keeps Non w W := by rw [← hW]; exact (((((Keeps.refl _ _).alloc _).alloc _).alloc _).alloc _).alloc _
  have b0 : Blk W w.heap.size (([(1, n, 0), (1, 1, 0)] : List Step3).flatMap sc) 62 := by
    rw [← hW]
    exact ((((Blk.new w (([(1, n, 0), (1, 1, 0)] : List Step3).flatMap sc) 62).alloc _).alloc _).alloc _).alloc _
  have b1 : Blk W (w.heap.size + 1) (([(2, 0, 0), (1, n, 0)] : List Step3).flatMap sc) 62 := by
    rw [← hW]
    exact (((Blk.newAt _ (([(2, 0, 0), (1, n, 0)] : List Step3).flatMap sc) 62 (by rw [hsz])).alloc _).alloc _).alloc _
  have b2 : Blk W (w.heap.size + 1 + 1) (([(3, 5, n), (4, 1, n)] : List Step3).flatMap sc) 62 := by
    rw [← hW]
    exact ((Blk.newAt _ (([(3, 5, n), (4, 1, n)] : List Step3).flatMap sc) 62 (by rw [hsz, hsz])).alloc _).alloc _
  have b3 : Blk W (w.heap.size + 1 + 1 + 1) (([(4, n, n)] : List Step3).flatMap sc) 62 := by
    rw [← hW]
    exact (Blk.newAt _ (([(4, n, n)] : List Step3).flatMap sc) 62 (by rw [hsz, hsz, hsz])).alloc _
  have b4 : Blk W (w.heap.size + 1 + 1 + 1 + 1) [.slice (some ⟨w.heap.size, 0, none⟩) 2 2, .slice (some ⟨w.heap.size + 1, 0, none⟩) 2 2, .slice (some ⟨w.heap.size + 1 + 1, 0, none⟩) 2 2, .slice (some ⟨w.heap.size + 1 + 1 + 1, 0, none⟩) 1 1] 59 := by
    rw [← hW]
    exact Blk.newAt _ [.slice (some ⟨w.heap.size, 0, none⟩) 2 2, .slice (some ⟨w.heap.size + 1, 0, none⟩) 2 2, .slice (some ⟨w.heap.size + 1 + 1, 0, none⟩) 2 2, .slice (some ⟨w.heap.size + 1 + 1 + 1, 0, none⟩) 1 1] 59 (by rw [hsz, hsz, hsz, hsz])
  rw [hW]
  have R := rws4 (x0 := [(1, n, 0), (1, 1, 0)]) (x1 := [(2, 0, 0), (1, n, 0)]) (x2 := [(3, 5, n), (4, 1, n)]) (x3 := [(4, n, n)]) b4
    (stp_blk b0 (bd_of (sok2 (by unfold Sok; simp only []; omega) (by unfold Sok; simp only []; omega)))) (stp_blk b1 (bd_of (sok2 (by unfold Sok; simp only []; omega) (by unfold Sok; simp only []; omega))))
    (stp_blk b2 (bd_of (sok2 (by unfold Sok; simp only []; omega) (by unfold Sok; simp only []; omega)))) (stp_blk b3 (bd_of (fun x hx => by
      simp only [List.mem_cons, List.not_mem_nil, or_false] at hx
      subst hx
      unfold Sok
      simp only []
      omega)))
  exact (runs_any n _ 4 4 _ W R (by omega) (all4 (by simp) (by simp) (by simp) (by simp))).mono fun e w' ⟨he, h⟩ => ⟨he, hk.then h⟩
set_option maxHeartbeats 4000000 in
set_option maxRecDepth 100000 in
theorem law_small (w : World) : Calls Try.prog 10 #[] w fun e w' => e = .returned (.bool true) ∧ Keeps Non w w' := by
  go_enter Try.func10, Try.ntmps10
  go_wp2_with fail
  go_loopw [39] (fun i wr => ∃ k : Nat, k ≤ 512 ∧ i = .int .i64 k ∧ Hid (Keeps Non w wr) ∧ Hid (Blk wr w.heap.size (E8.flatMap sc) 62)) (fun i _ => 512 - (intOf i).toNat)
  case atStart =>
    refine ⟨0, by omega, rfl, (Keeps.refl _ _).alloc _, ?_⟩
    exact Blk.new w (E8.flatMap sc) 62
  case round =>
    obtain ⟨k, hk, rfl, hK, hB⟩ := hrel
    by_cases hlt : k < 512
    · obtain ⟨p, hp, hp8⟩ : ∃ p : Nat, (k : Int) % 8 = (p : Int) ∧ p < 8 := ⟨k % 8, by omega, by omega⟩
      obtain ⟨q, hq, hq8⟩ : ∃ p : Nat, (k : Int) / 8 % 8 = (p : Int) ∧ p < 8 := ⟨k / 8 % 8, by omega, by omega⟩
      obtain ⟨r, hr, hr8⟩ : ∃ p : Nat, (k : Int) / 64 = (p : Int) ∧ p < 8 := ⟨k / 64, by omega, by omega⟩
      obtain ⟨g, hg⟩ : ∃ g : Int, (k : Int) % 6 = g := ⟨_, rfl⟩
      have y0 : (0 : Int) ≤ (k : Int) := by omega
      have y1 : (k : Int) < 512 := by omega
      have lb : w.heap.size < wr.heap.size := hB.out.lt
      obtain ⟨⟨p0, p1, p2⟩, hpm, cp0, cp1, cp2⟩ := e8_at hB.out p hp8
      obtain ⟨⟨q0, q1, q2⟩, hqm, cq0, cq1, cq2⟩ := e8_at hB.out q hq8
      obtain ⟨⟨r0, r1, r2⟩, hrm, cr0, cr1, cr2⟩ := e8_at hB.out r hr8
      have yp : (0 : Int) ≤ (p : Int) := by omega
      have yq : (0 : Int) ≤ (q : Int) := by omega
      have yr : (0 : Int) ≤ (r : Int) := by omega
      have zp : (p : Int) < 8 := by omega
      have zq : (q : Int) < 8 := by omega
      have zr : (r : Int) < 8 := by omega
      go_wp2_with fail
      go_region
      go_wp2_with fail
      go_region_with (go_at_call 35; refine (runs_w1 _ wr p0 p1 p2 q0 q1 q2 r0 r1 r2 (e8_ok _ hpm) (e8_ok _ hqm) (e8_ok _ hrm)).mono ?_; rintro e w2 ⟨rfl, hk2⟩)
      go_wp2_with fail
      go_round
      case rel => exact ⟨k + 1, by omega, by go_num, hK.out.then hk2, hB.out.keeps hk2 (fun x => x)⟩
      case measure => simp [intOf]; omega
    · go_wp2_with fail
      have lb := hB.out.lt
      obtain ⟨eb, heb⟩ : ∃ eb, eb = wr.heap.size := ⟨_, rfl⟩
      have HE := hide heb
      have HB1 : Hid (Blk (wr.alloc (.cells (EN.map (Value.int .i64)).toArray 3)) eb (EN.map (Value.int .i64)) 3) := Blk.newAt _ _ _ heb
      rw [← heb]
      have hK1 := hide (hK.out.alloc (.cells (EN.map (Value.int .i64)).toArray 3))
      clear heb hK hB lb
      go_loopw [73] (fun i wr => ∃ k : Nat, k ≤ 8 ∧ i = .int .i64 k ∧ Hid (Keeps Non w wr) ∧ Hid (Blk wr eb (EN.map (Value.int .i64)) 3)) (fun i _ => 8 - (intOf i).toNat)
      case atStart => exact ⟨0, by omega, rfl, hK1.out, HB1.out⟩
      case round =>
        clear HB1 hK1
        obtain ⟨k, hk, rfl, hK, hB⟩ := hrel
        by_cases hlt : k < 8
        · obtain ⟨n, hn, cn⟩ := en_at hB.out k hlt
          have lb := hB.out.lt
          have y0 : (0 : Int) ≤ (k : Int) := by omega
          have y1 : (k : Int) < 8 := by omega
          go_wp2_with (go_at_call 35; refine (runs_w2 n hn wr).mono ?_; rintro e w2 ⟨rfl, hk2⟩)
          go_round
          case rel => exact ⟨k + 1, by omega, by go_num, hK.out.then hk2, hB.out.keeps hk2 (fun x => x)⟩
          case measure => simp [intOf]; omega
        · go_wp2_with (first | (go_at_call 13; refine (catch_nil _).mono ?_; rintro e w2 ⟨rfl, hk2⟩) | (go_at_call 20; refine (tryS_nil _).mono ?_; rintro e w3 ⟨rfl, hk3⟩))
          refine (orI_nilf _ 1 _ thereB_1).mono ?_
          rintro e w4 ⟨rfl, rfl⟩
          go_wp2_with fail
          refine (orI_nilg 36 _ 2 _ thereB_2).mono ?_
          rintro e w4 ⟨rfl, rfl⟩
          go_wp2_with fail
          refine (orI_kind _ _ 0 _ thereB_0).mono ?_
          rintro e w4 ⟨rfl, rfl⟩
          go_wp2_with fail
          refine (orI_kind _ _ 3 _ thereB_3).mono ?_
          rintro e w4 ⟨rfl, rfl⟩
          go_wp2_with fail
          refine (orI_one _).mono ?_
          rintro e w5 ⟨rfl, hk5⟩
          go_wp2_with (first | (go_at_call 11; refine (long_out _).mono ?_; rintro e w6 ⟨rfl, hk6⟩) | (go_at_call 40; refine (thrown_f 1048577 _).mono ?_; rintro e w7 ⟨rfl, hk7⟩))
          have hK7 : Keeps Non w w7 := (((((((hK.out.then hk2).alloc _).then hk3).alloc _).then hk5).then hk6).then hk7)
          obtain ⟨zb, hzb⟩ : ∃ zb, zb = w7.heap.size := ⟨_, rfl⟩
          obtain ⟨W, hW⟩ : ∃ W, (w7.alloc (.cells #[.int .i64 0, .int .i64 0, .int .i64 0, .bool false] 70)).alloc (.cells #[.pointer none, .pointer (some ⟨w7.heap.size, 0, none⟩)] 47) = W := ⟨_, rfl⟩
          have hZ : Hid (Blk W zb [.int .i64 0, .int .i64 0, .int .i64 0, .bool false] 70) := by
            rw [← hW]
            exact (Blk.newAt _ [.int .i64 0, .int .i64 0, .int .i64 0, .bool false] 70 hzb).alloc _
          have hP : Hid (Blk W (zb + 1) [.pointer none, .pointer (some ⟨zb, 0, none⟩)] 47) := by
            rw [← hW, ← hzb]
            exact Blk.newAt _ [.pointer none, .pointer (some ⟨zb, 0, none⟩)] 47 (by rw [hsz, hzb])
          have hKW : Hid (Keeps Non w W) := by
            rw [← hW]
            exact (hK7.alloc _).alloc _
          rw [hW, ← hzb]
          clear hW hzb hK7 hk2 hk3 hk5 hk6 hk7 hK hB
          go_loopw [192] (fun i wr => ∃ k : Nat, k ≤ 2 ∧ i = .int .i64 k ∧ Hid (Keeps Non w wr) ∧ Hid (Blk wr zb [.int .i64 0, .int .i64 0, .int .i64 0, .bool false] 70) ∧ Hid (Blk wr (zb + 1) [.pointer none, .pointer (some ⟨zb, 0, none⟩)] 47)) (fun i _ => 2 - (intOf i).toNat)
          case atStart => exact ⟨0, by omega, rfl, hKW.out, hZ.out, hP.out⟩
          case round =>
            clear hKW hZ hP
            obtain ⟨k, hk, rfl, hK, hZ, hP⟩ := hrel
            by_cases h2 : k < 2
            · have lp := hP.out.lt
              have lz := hZ.out.lt
              obtain rfl | rfl : k = 0 ∨ k = 1 := by omega
              · have c0 : wr.cell? ⟨zb + 1, 0, none⟩ = some (.pointer none) := hP.out.cell 0
                go_wp2_with (first | (go_at_call 30; refine (usen_any _ _).mono ?_; rintro e w2 ⟨rfl, rfl⟩) | (go_at_call 28; refine (filln_any _).mono ?_; rintro e w2 ⟨rfl, rfl⟩) | (go_at_call 31; refine (leftn_any _).mono ?_; rintro e w2 ⟨rfl, rfl⟩) | (go_at_call 32; refine (usedn_any _).mono ?_; rintro e w2 ⟨rfl, rfl⟩))
                go_round
                case rel => exact ⟨1, by omega, by go_num, hK.out, hZ.out, hP.out⟩
                case measure => simp [intOf]
              · have c1 : wr.cell? ⟨zb + 1, 1, none⟩ = some (.pointer (some ⟨zb, 0, none⟩)) := hP.out.cell 1
                go_wp2_with (first | (go_at_call 30; refine (usez_any _ _ _ hZ.out).mono ?_; rintro e w2 ⟨rfl, rfl⟩) | (go_at_call 28; refine (fillz_any _ _ hZ.out).mono ?_; rintro e w2 ⟨rfl, rfl⟩) | (go_at_call 31; refine (leftz_any _ _ hZ.out).mono ?_; rintro e w2 ⟨rfl, rfl⟩) | (go_at_call 32; refine (usedz_any _ _ hZ.out).mono ?_; rintro e w2 ⟨rfl, rfl⟩))
                go_round
                case rel => exact ⟨2, by omega, by go_num, hK.out, hZ.out, hP.out⟩
                case measure => simp [intOf]
            · go_wp2_with (go_at_call 18; refine (awake_any _).mono ?_; rintro e w2 ⟨rfl, hk2⟩)
              go_ret
              exact ⟨rfl, hK.out.then hk2⟩
end Go.Proofs.Ytfjofiofgjlgiaa
