/-
  Walks over layer 2: ReadByte. No condition.
-/
import Derived.Test.YtoogopcaieodoaaF
namespace Go.Proofs.Ytoogopcaieodoaa
open Go.RowKit
attribute [local go_sem] onto_cell onto_frozen
theorem nibble_at (c v : Int) (w : World) (h0 : 0 ≤ c) (h1 : c ≤ 255) (hv : nib c = v) :
    Calls Try.prog 37 #[.int .u8 c] w fun e w' => e = .returned (.int .i64 v) ∧ w = w' := by
  subst hv
  exact nibble_any c w h0 h1
theorem not_empty {s : ByteArray} (h : 0 < s.size) : s.toList.isEmpty = false := by
  rw [Lib.toList_data, List.isEmpty_eq_false_iff]
  intro e
  have : s.data.toList.length = 0 := by rw [e]; rfl
  have e2 : s.size = s.data.toList.length := rfl
  omega
theorem rb_empty (m : Mk) (s : ByteArray) (w : World) (hs : s = ⟨#[]⟩) :
    Calls Try.prog 20 #[.string s, .agg #[.int .u64 m.w0, .int .u64 m.w1, .int .u64 m.w2, .int .u64 m.w3]] w fun e w' => e = .returned (.tuple #[.int .u8 0, .int .i64 0, .int .i64 20]) ∧ Keeps Non w w' := by
  subst hs
  go_enter Try.func20, Try.ntmps20
  go_wp2_with fail
  go_ret3
  exact ⟨rfl, (Keeps.refl _ _).alloc _⟩
set_option maxHeartbeats 1000000 in
theorem rb_plain (m : Mk) (s : ByteArray) (c : Int) (w : World) (hs : 0 < s.size) (hc : (s[0].toNat : Int) = c) (h92 : (c != 92) = true) (h32 : 32 ≤ c) (h126 : c ≤ 126) (hm : isMk m c = false) :
    Calls Try.prog 20 #[.string s, .agg #[.int .u64 m.w0, .int .u64 m.w1, .int .u64 m.w2, .int .u64 m.w3]] w fun e w' => e = .returned (.tuple #[.int .u8 c, .int .i64 1, .int .i64 0]) ∧ Keeps Non w w' := by
  have HM := hide (fun w => isMark_at m c _ w (by omega) (by omega) hm)
  have e1 := not_empty hs
  have z0 : (0 : Int) < (s.size : Int) := by omega
  have e2 : decide (32 ≤ c) = true := by simpa using h32
  have e3 : decide (c ≤ 126) = true := by simpa using h126
  go_enter Try.func20, Try.ntmps20
  go_wp2_with fail
  obtain ⟨W, hW⟩ : ∃ W, w.alloc (.cells #[.int .u64 m.w0, .int .u64 m.w1, .int .u64 m.w2, .int .u64 m.w3] 24) = W := ⟨_, rfl⟩
  have hk : Keeps Non w W := by rw [← hW]; exact (Keeps.refl _ _).alloc _
  have hb : Blk W w.heap.size [.int .u64 m.w0, .int .u64 m.w1, .int .u64 m.w2, .int .u64 m.w3] 24 := by rw [← hW]; exact Blk.new w _ _
  rw [hW]
  have HK := hide hk
  clear hW hk
  have lb := hb.lt
  have k0 : W.cell? ⟨w.heap.size, 0, none⟩ = some (.int .u64 m.w0) := hb.cell 0
  have k1 : W.cell? ⟨w.heap.size, 1, none⟩ = some (.int .u64 m.w1) := hb.cell 1
  have k2 : W.cell? ⟨w.heap.size, 2, none⟩ = some (.int .u64 m.w2) := hb.cell 2
  have k3 : W.cell? ⟨w.heap.size, 3, none⟩ = some (.int .u64 m.w3) := hb.cell 3
  clear hb
  refine wp_region_onto (by kernel_rfl) (by kernel_rfl) ?_
  repeat (go_big_quiet_step (first | (go_at_call 35; exact onto_call (HM.out _))))
  refine wpQuiet_nil ?_
  rintro _ ⟨u, rfl⟩
  go_wp2_with fail
  go_ret3
  exact ⟨rfl, HK.out.then (onto_keeps W u)⟩
set_option maxHeartbeats 1000000 in
theorem rb_low (m : Mk) (s : ByteArray) (c : Int) (w : World) (hs : 0 < s.size) (hc : (s[0].toNat : Int) = c) (h92 : (c != 92) = true) (h32 : c < 32) :
    Calls Try.prog 20 #[.string s, .agg #[.int .u64 m.w0, .int .u64 m.w1, .int .u64 m.w2, .int .u64 m.w3]] w fun e w' => e = .returned (.tuple #[.int .u8 0, .int .i64 0, .int .i64 20]) ∧ Keeps Non w w' := by
  have e1 := not_empty hs
  have z0 : (0 : Int) < (s.size : Int) := by omega
  have e2 : decide (32 ≤ c) = false := by simp; omega
  go_enter Try.func20, Try.ntmps20
  go_wp2_with fail
  obtain ⟨W, hW⟩ : ∃ W, w.alloc (.cells #[.int .u64 m.w0, .int .u64 m.w1, .int .u64 m.w2, .int .u64 m.w3] 24) = W := ⟨_, rfl⟩
  have hk : Keeps Non w W := by rw [← hW]; exact (Keeps.refl _ _).alloc _
  have hb : Blk W w.heap.size [.int .u64 m.w0, .int .u64 m.w1, .int .u64 m.w2, .int .u64 m.w3] 24 := by rw [← hW]; exact Blk.new w _ _
  rw [hW]
  have HK := hide hk
  clear hW hk
  have lb := hb.lt
  have k0 : W.cell? ⟨w.heap.size, 0, none⟩ = some (.int .u64 m.w0) := hb.cell 0
  have k1 : W.cell? ⟨w.heap.size, 1, none⟩ = some (.int .u64 m.w1) := hb.cell 1
  have k2 : W.cell? ⟨w.heap.size, 2, none⟩ = some (.int .u64 m.w2) := hb.cell 2
  have k3 : W.cell? ⟨w.heap.size, 3, none⟩ = some (.int .u64 m.w3) := hb.cell 3
  clear hb
  refine wp_region_onto (by kernel_rfl) (by kernel_rfl) ?_
  repeat (go_big_quiet_step (first | (go_at_call 35; exact onto_call (HM.out _))))
  refine wpQuiet_nil ?_
  rintro _ ⟨u, rfl⟩
  go_wp2_with fail
  go_ret3
  exact ⟨rfl, HK.out.then (onto_keeps W u)⟩
set_option maxHeartbeats 1000000 in
theorem rb_high (m : Mk) (s : ByteArray) (c : Int) (w : World) (hs : 0 < s.size) (hc : (s[0].toNat : Int) = c) (h92 : (c != 92) = true) (h126 : 126 < c) :
    Calls Try.prog 20 #[.string s, .agg #[.int .u64 m.w0, .int .u64 m.w1, .int .u64 m.w2, .int .u64 m.w3]] w fun e w' => e = .returned (.tuple #[.int .u8 0, .int .i64 0, .int .i64 20]) ∧ Keeps Non w w' := by
  have e1 := not_empty hs
  have z0 : (0 : Int) < (s.size : Int) := by omega
  have e2 : decide (32 ≤ c) = true := by simp; omega
  have e3 : decide (c ≤ 126) = false := by simp; omega
  go_enter Try.func20, Try.ntmps20
  go_wp2_with fail
  obtain ⟨W, hW⟩ : ∃ W, w.alloc (.cells #[.int .u64 m.w0, .int .u64 m.w1, .int .u64 m.w2, .int .u64 m.w3] 24) = W := ⟨_, rfl⟩
  have hk : Keeps Non w W := by rw [← hW]; exact (Keeps.refl _ _).alloc _
  have hb : Blk W w.heap.size [.int .u64 m.w0, .int .u64 m.w1, .int .u64 m.w2, .int .u64 m.w3] 24 := by rw [← hW]; exact Blk.new w _ _
  rw [hW]
  have HK := hide hk
  clear hW hk
  have lb := hb.lt
  have k0 : W.cell? ⟨w.heap.size, 0, none⟩ = some (.int .u64 m.w0) := hb.cell 0
  have k1 : W.cell? ⟨w.heap.size, 1, none⟩ = some (.int .u64 m.w1) := hb.cell 1
  have k2 : W.cell? ⟨w.heap.size, 2, none⟩ = some (.int .u64 m.w2) := hb.cell 2
  have k3 : W.cell? ⟨w.heap.size, 3, none⟩ = some (.int .u64 m.w3) := hb.cell 3
  clear hb
  refine wp_region_onto (by kernel_rfl) (by kernel_rfl) ?_
  repeat (go_big_quiet_step (first | (go_at_call 35; exact onto_call (HM.out _))))
  refine wpQuiet_nil ?_
  rintro _ ⟨u, rfl⟩
  go_wp2_with fail
  go_ret3
  exact ⟨rfl, HK.out.then (onto_keeps W u)⟩
set_option maxHeartbeats 1000000 in
theorem rb_mark (m : Mk) (s : ByteArray) (c : Int) (w : World) (hs : 0 < s.size) (hc : (s[0].toNat : Int) = c) (h92 : (c != 92) = true) (h32 : 32 ≤ c) (h126 : c ≤ 126) (hm : isMk m c = true) :
    Calls Try.prog 20 #[.string s, .agg #[.int .u64 m.w0, .int .u64 m.w1, .int .u64 m.w2, .int .u64 m.w3]] w fun e w' => e = .returned (.tuple #[.int .u8 0, .int .i64 0, .int .i64 20]) ∧ Keeps Non w w' := by
  have HM := hide (fun w => isMark_at m c _ w (by omega) (by omega) hm)
  have e1 := not_empty hs
  have z0 : (0 : Int) < (s.size : Int) := by omega
  have e2 : decide (32 ≤ c) = true := by simpa using h32
  have e3 : decide (c ≤ 126) = true := by simpa using h126
  go_enter Try.func20, Try.ntmps20
  go_wp2_with fail
  obtain ⟨W, hW⟩ : ∃ W, w.alloc (.cells #[.int .u64 m.w0, .int .u64 m.w1, .int .u64 m.w2, .int .u64 m.w3] 24) = W := ⟨_, rfl⟩
  have hk : Keeps Non w W := by rw [← hW]; exact (Keeps.refl _ _).alloc _
  have hb : Blk W w.heap.size [.int .u64 m.w0, .int .u64 m.w1, .int .u64 m.w2, .int .u64 m.w3] 24 := by rw [← hW]; exact Blk.new w _ _
  rw [hW]
  have HK := hide hk
  clear hW hk
  have lb := hb.lt
  have k0 : W.cell? ⟨w.heap.size, 0, none⟩ = some (.int .u64 m.w0) := hb.cell 0
  have k1 : W.cell? ⟨w.heap.size, 1, none⟩ = some (.int .u64 m.w1) := hb.cell 1
  have k2 : W.cell? ⟨w.heap.size, 2, none⟩ = some (.int .u64 m.w2) := hb.cell 2
  have k3 : W.cell? ⟨w.heap.size, 3, none⟩ = some (.int .u64 m.w3) := hb.cell 3
  clear hb
  refine wp_region_onto (by kernel_rfl) (by kernel_rfl) ?_
  repeat (go_big_quiet_step (first | (go_at_call 35; exact onto_call (HM.out _))))
  refine wpQuiet_nil ?_
  rintro _ ⟨u, rfl⟩
  go_wp2_with fail
  go_ret3
  exact ⟨rfl, HK.out.then (onto_keeps W u)⟩
set_option maxHeartbeats 1000000 in
theorem rb_short (m : Mk) (s : ByteArray)  (w : World) (hs : 0 < s.size) (hc : (s[0].toNat : Int) = 92) (h2 : s.size < 2) :
    Calls Try.prog 20 #[.string s, .agg #[.int .u64 m.w0, .int .u64 m.w1, .int .u64 m.w2, .int .u64 m.w3]] w fun e w' => e = .returned (.tuple #[.int .u8 0, .int .i64 0, .int .i64 20]) ∧ Keeps Non w w' := by
  have e1 := not_empty hs
  have z0 : (0 : Int) < (s.size : Int) := by omega
  have z2 : (s.size : Int) < 2 := by omega
  go_enter Try.func20, Try.ntmps20
  go_wp2_with fail
  obtain ⟨W, hW⟩ : ∃ W, w.alloc (.cells #[.int .u64 m.w0, .int .u64 m.w1, .int .u64 m.w2, .int .u64 m.w3] 24) = W := ⟨_, rfl⟩
  have hk : Keeps Non w W := by rw [← hW]; exact (Keeps.refl _ _).alloc _
  have hb : Blk W w.heap.size [.int .u64 m.w0, .int .u64 m.w1, .int .u64 m.w2, .int .u64 m.w3] 24 := by rw [← hW]; exact Blk.new w _ _
  rw [hW]
  have HK := hide hk
  clear hW hk
  have lb := hb.lt
  have k0 : W.cell? ⟨w.heap.size, 0, none⟩ = some (.int .u64 m.w0) := hb.cell 0
  have k1 : W.cell? ⟨w.heap.size, 1, none⟩ = some (.int .u64 m.w1) := hb.cell 1
  have k2 : W.cell? ⟨w.heap.size, 2, none⟩ = some (.int .u64 m.w2) := hb.cell 2
  have k3 : W.cell? ⟨w.heap.size, 3, none⟩ = some (.int .u64 m.w3) := hb.cell 3
  clear hb
  refine wp_region_onto (by kernel_rfl) (by kernel_rfl) ?_
  repeat (go_big_quiet_step (first | (go_at_call 35; exact onto_call (HM.out _))))
  refine wpQuiet_nil ?_
  rintro _ ⟨u, rfl⟩
  go_wp2_with fail
  go_ret3
  exact ⟨rfl, HK.out.then (onto_keeps W u)⟩
set_option maxHeartbeats 1000000 in
theorem rb_hex (m : Mk) (s : ByteArray) (x y p q : Int) (w : World) (hs : 3 < s.size) (hc : (s[0].toNat : Int) = 92) (hd : (s[1].toNat : Int) = 120) (hx : (s[2].toNat : Int) = x) (hy : (s[3].toNat : Int) = y) (hp : nib x = p) (hq : nib y = q) (hp16 : p < 16) (hq16 : q < 16) (hp0 : 0 ≤ p) :
    Calls Try.prog 20 #[.string s, .agg #[.int .u64 m.w0, .int .u64 m.w1, .int .u64 m.w2, .int .u64 m.w3]] w fun e w' => e = .returned (.tuple #[.int .u8 (bits .or .i64 (p * 16) q % 256), .int .i64 4, .int .i64 0]) ∧ Keeps Non w w' := by
  have hs0 : 0 < s.size := by omega
  have e1 := not_empty hs0
  have z0 : (0 : Int) < (s.size : Int) := by omega
  have z1 : (1 : Int) < (s.size : Int) := by omega
  have z2 : ¬ (s.size : Int) < 2 := by omega
  have z3 : (2 : Int) < (s.size : Int) := by omega
  have z4 : (3 : Int) < (s.size : Int) := by omega
  have HI := hide (fun w => index_at ⟨#[110, 114, 116]⟩ 120 (-1) w (by rfl))
  have bx := u8_bd s[2]
  have by' := u8_bd s[3]
  rw [hx] at bx
  rw [hy] at by'
  have HX := hide (fun w => nibble_at x p w bx.1 bx.2 hp)
  have HY := hide (fun w => nibble_at y q w by'.1 by'.2 hq)
  clear bx by' hp hq
  go_enter Try.func20, Try.ntmps20
  go_wp2_with fail
  obtain ⟨W, hW⟩ : ∃ W, w.alloc (.cells #[.int .u64 m.w0, .int .u64 m.w1, .int .u64 m.w2, .int .u64 m.w3] 24) = W := ⟨_, rfl⟩
  have hk : Keeps Non w W := by rw [← hW]; exact (Keeps.refl _ _).alloc _
  have hb : Blk W w.heap.size [.int .u64 m.w0, .int .u64 m.w1, .int .u64 m.w2, .int .u64 m.w3] 24 := by rw [← hW]; exact Blk.new w _ _
  rw [hW]
  have HK := hide hk
  clear hW hk
  have lb := hb.lt
  have k0 : W.cell? ⟨w.heap.size, 0, none⟩ = some (.int .u64 m.w0) := hb.cell 0
  have k1 : W.cell? ⟨w.heap.size, 1, none⟩ = some (.int .u64 m.w1) := hb.cell 1
  have k2 : W.cell? ⟨w.heap.size, 2, none⟩ = some (.int .u64 m.w2) := hb.cell 2
  have k3 : W.cell? ⟨w.heap.size, 3, none⟩ = some (.int .u64 m.w3) := hb.cell 3
  clear hb
  refine wp_region_onto (by kernel_rfl) (by kernel_rfl) ?_
  repeat (go_big_quiet_step (first | (go_at_call 35; exact onto_call (HM.out _))))
  refine wpQuiet_nil ?_
  rintro _ ⟨u, rfl⟩
  go_wp2_with (first | (go_at_call 34; refine (HI.out _).mono ?_; rintro e w2 ⟨rfl, rfl⟩) | (go_at_call 37; with_reducible refine (HX.out _).mono ?_; rintro e w2 ⟨rfl, rfl⟩) | (go_at_call 37; with_reducible refine (HY.out _).mono ?_; rintro e w2 ⟨rfl, rfl⟩))
  obtain ⟨W2, hW2⟩ : ∃ W2, onto W u = W2 := ⟨_, rfl⟩
  have hk2 : Keeps Non W W2 := by rw [← hW2]; exact onto_keeps W u
  have HK2 := hide hk2
  rw [hW2]
  clear hW2 hk2
  refine wp_region_onto (by kernel_rfl) (by kernel_rfl) ?_
  repeat (go_big_quiet_step (first | (go_at_call 37; with_reducible exact onto_same (HX.out _)) | (go_at_call 37; with_reducible exact onto_same (HY.out _))))
  refine wpQuiet_nil ?_
  rintro _ ⟨u2, rfl⟩
  go_wp2_with fail
  go_ret3
  exact ⟨rfl, (HK.out.then HK2.out).then (onto_keeps W2 u2)⟩
set_option maxHeartbeats 1000000 in
theorem rb_x1 (m : Mk) (s : ByteArray)  (w : World) (hs : 1 < s.size) (hc : (s[0].toNat : Int) = 92) (hd : (s[1].toNat : Int) = 120) (h3 : s.size ≤ 3) :
    Calls Try.prog 20 #[.string s, .agg #[.int .u64 m.w0, .int .u64 m.w1, .int .u64 m.w2, .int .u64 m.w3]] w fun e w' => e = .returned (.tuple #[.int .u8 0, .int .i64 0, .int .i64 20]) ∧ Keeps Non w w' := by
  have hs0 : 0 < s.size := by omega
  have e1 := not_empty hs0
  have z0 : (0 : Int) < (s.size : Int) := by omega
  have z1 : (1 : Int) < (s.size : Int) := by omega
  have z2 : ¬ (s.size : Int) < 2 := by omega
  have z3 : ¬ (3 : Int) < (s.size : Int) := by omega
  have hm : isMk m 120 = false := by simp [isMk, show letterB 120 = true from by decide]
  have HM := hide (fun w => isMark_at m 120 _ w (by omega) (by omega) hm)
  have HI := hide (fun w => index_at ⟨#[110, 114, 116]⟩ 120 (-1) w (by rfl))
  go_enter Try.func20, Try.ntmps20
  go_wp2_with fail
  obtain ⟨W, hW⟩ : ∃ W, w.alloc (.cells #[.int .u64 m.w0, .int .u64 m.w1, .int .u64 m.w2, .int .u64 m.w3] 24) = W := ⟨_, rfl⟩
  have hk : Keeps Non w W := by rw [← hW]; exact (Keeps.refl _ _).alloc _
  have hb : Blk W w.heap.size [.int .u64 m.w0, .int .u64 m.w1, .int .u64 m.w2, .int .u64 m.w3] 24 := by rw [← hW]; exact Blk.new w _ _
  rw [hW]
  have HK := hide hk
  clear hW hk
  have lb := hb.lt
  have k0 : W.cell? ⟨w.heap.size, 0, none⟩ = some (.int .u64 m.w0) := hb.cell 0
  have k1 : W.cell? ⟨w.heap.size, 1, none⟩ = some (.int .u64 m.w1) := hb.cell 1
  have k2 : W.cell? ⟨w.heap.size, 2, none⟩ = some (.int .u64 m.w2) := hb.cell 2
  have k3 : W.cell? ⟨w.heap.size, 3, none⟩ = some (.int .u64 m.w3) := hb.cell 3
  clear hb
  refine wp_region_onto (by kernel_rfl) (by kernel_rfl) ?_
  repeat (go_big_quiet_step (first | (go_at_call 35; exact onto_call (HM.out _))))
  refine wpQuiet_nil ?_
  rintro _ ⟨u, rfl⟩
  go_wp2_with (first | (go_at_call 34; refine (HI.out _).mono ?_; rintro e w2 ⟨rfl, rfl⟩) | (go_at_call 35; refine (HM.out _).mono ?_; rintro e w2 ⟨rfl, hk2⟩))
  go_ret3
  exact ⟨rfl, (HK.out.then (onto_keeps W u)).then hk2⟩
set_option maxHeartbeats 1000000 in
theorem rb_x2 (m : Mk) (s : ByteArray) (x y p q : Int) (w : World) (hs : 3 < s.size) (hc : (s[0].toNat : Int) = 92) (hd : (s[1].toNat : Int) = 120) (hx : (s[2].toNat : Int) = x) (hy : (s[3].toNat : Int) = y) (hp : nib x = p) (hq : nib y = q) (h16 : 16 ≤ p) :
    Calls Try.prog 20 #[.string s, .agg #[.int .u64 m.w0, .int .u64 m.w1, .int .u64 m.w2, .int .u64 m.w3]] w fun e w' => e = .returned (.tuple #[.int .u8 0, .int .i64 0, .int .i64 20]) ∧ Keeps Non w w' := by
  have hs0 : 0 < s.size := by omega
  have e1 := not_empty hs0
  have z0 : (0 : Int) < (s.size : Int) := by omega
  have z1 : (1 : Int) < (s.size : Int) := by omega
  have z2 : ¬ (s.size : Int) < 2 := by omega
  have z3 : (2 : Int) < (s.size : Int) := by omega
  have z4 : (3 : Int) < (s.size : Int) := by omega
  have bx := u8_bd s[2]
  have by' := u8_bd s[3]
  rw [hx] at bx
  rw [hy] at by'
  have HX := hide (fun w => nibble_at x p w bx.1 bx.2 hp)
  have HY := hide (fun w => nibble_at y q w by'.1 by'.2 hq)
  clear bx by' hp hq
  have hm : isMk m 120 = false := by simp [isMk, show letterB 120 = true from by decide]
  have HM := hide (fun w => isMark_at m 120 _ w (by omega) (by omega) hm)
  have HI := hide (fun w => index_at ⟨#[110, 114, 116]⟩ 120 (-1) w (by rfl))
  go_enter Try.func20, Try.ntmps20
  go_wp2_with fail
  obtain ⟨W, hW⟩ : ∃ W, w.alloc (.cells #[.int .u64 m.w0, .int .u64 m.w1, .int .u64 m.w2, .int .u64 m.w3] 24) = W := ⟨_, rfl⟩
  have hk : Keeps Non w W := by rw [← hW]; exact (Keeps.refl _ _).alloc _
  have hb : Blk W w.heap.size [.int .u64 m.w0, .int .u64 m.w1, .int .u64 m.w2, .int .u64 m.w3] 24 := by rw [← hW]; exact Blk.new w _ _
  rw [hW]
  have HK := hide hk
  clear hW hk
  have lb := hb.lt
  have k0 : W.cell? ⟨w.heap.size, 0, none⟩ = some (.int .u64 m.w0) := hb.cell 0
  have k1 : W.cell? ⟨w.heap.size, 1, none⟩ = some (.int .u64 m.w1) := hb.cell 1
  have k2 : W.cell? ⟨w.heap.size, 2, none⟩ = some (.int .u64 m.w2) := hb.cell 2
  have k3 : W.cell? ⟨w.heap.size, 3, none⟩ = some (.int .u64 m.w3) := hb.cell 3
  clear hb
  refine wp_region_onto (by kernel_rfl) (by kernel_rfl) ?_
  repeat (go_big_quiet_step (first | (go_at_call 35; exact onto_call (HM.out _))))
  refine wpQuiet_nil ?_
  rintro _ ⟨u, rfl⟩
  go_wp2_with (first | (go_at_call 34; refine (HI.out _).mono ?_; rintro e w2 ⟨rfl, rfl⟩) | (go_at_call 35; refine (HM.out _).mono ?_; rintro e w2 ⟨rfl, hk2⟩) | (go_at_call 37; with_reducible refine (HX.out _).mono ?_; rintro e w2 ⟨rfl, rfl⟩) | (go_at_call 37; with_reducible refine (HY.out _).mono ?_; rintro e w2 ⟨rfl, rfl⟩))
  go_ret3
  exact ⟨rfl, (HK.out.then (onto_keeps W u)).then hk2⟩
set_option maxHeartbeats 1000000 in
theorem rb_x3 (m : Mk) (s : ByteArray) (x y p q : Int) (w : World) (hs : 3 < s.size) (hc : (s[0].toNat : Int) = 92) (hd : (s[1].toNat : Int) = 120) (hx : (s[2].toNat : Int) = x) (hy : (s[3].toNat : Int) = y) (hp : nib x = p) (hq : nib y = q) (hp16 : p < 16) (h16 : 16 ≤ q) :
    Calls Try.prog 20 #[.string s, .agg #[.int .u64 m.w0, .int .u64 m.w1, .int .u64 m.w2, .int .u64 m.w3]] w fun e w' => e = .returned (.tuple #[.int .u8 0, .int .i64 0, .int .i64 20]) ∧ Keeps Non w w' := by
  have hs0 : 0 < s.size := by omega
  have e1 := not_empty hs0
  have z0 : (0 : Int) < (s.size : Int) := by omega
  have z1 : (1 : Int) < (s.size : Int) := by omega
  have z2 : ¬ (s.size : Int) < 2 := by omega
  have z3 : (2 : Int) < (s.size : Int) := by omega
  have z4 : (3 : Int) < (s.size : Int) := by omega
  have bx := u8_bd s[2]
  have by' := u8_bd s[3]
  rw [hx] at bx
  rw [hy] at by'
  have HX := hide (fun w => nibble_at x p w bx.1 bx.2 hp)
  have HY := hide (fun w => nibble_at y q w by'.1 by'.2 hq)
  clear bx by' hp hq
  have hm : isMk m 120 = false := by simp [isMk, show letterB 120 = true from by decide]
  have HM := hide (fun w => isMark_at m 120 _ w (by omega) (by omega) hm)
  have HI := hide (fun w => index_at ⟨#[110, 114, 116]⟩ 120 (-1) w (by rfl))
  go_enter Try.func20, Try.ntmps20
  go_wp2_with fail
  obtain ⟨W, hW⟩ : ∃ W, w.alloc (.cells #[.int .u64 m.w0, .int .u64 m.w1, .int .u64 m.w2, .int .u64 m.w3] 24) = W := ⟨_, rfl⟩
  have hk : Keeps Non w W := by rw [← hW]; exact (Keeps.refl _ _).alloc _
  have hb : Blk W w.heap.size [.int .u64 m.w0, .int .u64 m.w1, .int .u64 m.w2, .int .u64 m.w3] 24 := by rw [← hW]; exact Blk.new w _ _
  rw [hW]
  have HK := hide hk
  clear hW hk
  have lb := hb.lt
  have k0 : W.cell? ⟨w.heap.size, 0, none⟩ = some (.int .u64 m.w0) := hb.cell 0
  have k1 : W.cell? ⟨w.heap.size, 1, none⟩ = some (.int .u64 m.w1) := hb.cell 1
  have k2 : W.cell? ⟨w.heap.size, 2, none⟩ = some (.int .u64 m.w2) := hb.cell 2
  have k3 : W.cell? ⟨w.heap.size, 3, none⟩ = some (.int .u64 m.w3) := hb.cell 3
  clear hb
  refine wp_region_onto (by kernel_rfl) (by kernel_rfl) ?_
  repeat (go_big_quiet_step (first | (go_at_call 35; exact onto_call (HM.out _))))
  refine wpQuiet_nil ?_
  rintro _ ⟨u, rfl⟩
  go_wp2_with (first | (go_at_call 34; refine (HI.out _).mono ?_; rintro e w2 ⟨rfl, rfl⟩) | (go_at_call 35; refine (HM.out _).mono ?_; rintro e w2 ⟨rfl, hk2⟩) | (go_at_call 37; with_reducible refine (HX.out _).mono ?_; rintro e w2 ⟨rfl, rfl⟩) | (go_at_call 37; with_reducible refine (HY.out _).mono ?_; rintro e w2 ⟨rfl, rfl⟩))
  go_ret3
  exact ⟨rfl, (HK.out.then (onto_keeps W u)).then hk2⟩
set_option maxHeartbeats 1000000 in
theorem rb_slash (m : Mk) (s : ByteArray)  (w : World) (hs : 1 < s.size) (hc : (s[0].toNat : Int) = 92) (hd : (s[1].toNat : Int) = 92) :
    Calls Try.prog 20 #[.string s, .agg #[.int .u64 m.w0, .int .u64 m.w1, .int .u64 m.w2, .int .u64 m.w3]] w fun e w' => e = .returned (.tuple #[.int .u8 92, .int .i64 2, .int .i64 0]) ∧ Keeps Non w w' := by
  have hs0 : 0 < s.size := by omega
  have e1 := not_empty hs0
  have z0 : (0 : Int) < (s.size : Int) := by omega
  have z1 : (1 : Int) < (s.size : Int) := by omega
  have z2 : ¬ (s.size : Int) < 2 := by omega
  have HI := hide (fun w => index_at ⟨#[110, 114, 116]⟩ 92 (-1) w (by rfl))
  go_enter Try.func20, Try.ntmps20
  go_wp2_with fail
  obtain ⟨W, hW⟩ : ∃ W, w.alloc (.cells #[.int .u64 m.w0, .int .u64 m.w1, .int .u64 m.w2, .int .u64 m.w3] 24) = W := ⟨_, rfl⟩
  have hk : Keeps Non w W := by rw [← hW]; exact (Keeps.refl _ _).alloc _
  have hb : Blk W w.heap.size [.int .u64 m.w0, .int .u64 m.w1, .int .u64 m.w2, .int .u64 m.w3] 24 := by rw [← hW]; exact Blk.new w _ _
  rw [hW]
  have HK := hide hk
  clear hW hk
  have lb := hb.lt
  have k0 : W.cell? ⟨w.heap.size, 0, none⟩ = some (.int .u64 m.w0) := hb.cell 0
  have k1 : W.cell? ⟨w.heap.size, 1, none⟩ = some (.int .u64 m.w1) := hb.cell 1
  have k2 : W.cell? ⟨w.heap.size, 2, none⟩ = some (.int .u64 m.w2) := hb.cell 2
  have k3 : W.cell? ⟨w.heap.size, 3, none⟩ = some (.int .u64 m.w3) := hb.cell 3
  clear hb
  refine wp_region_onto (by kernel_rfl) (by kernel_rfl) ?_
  repeat (go_big_quiet_step (first | (go_at_call 35; exact onto_call (HM.out _))))
  refine wpQuiet_nil ?_
  rintro _ ⟨u, rfl⟩
  go_wp2_with (first | (go_at_call 34; refine (HI.out _).mono ?_; rintro e w2 ⟨rfl, rfl⟩))
  go_ret3
  exact ⟨rfl, HK.out.then (onto_keeps W u)⟩
set_option maxHeartbeats 1000000 in
theorem rb_esc (m : Mk) (s : ByteArray) (d i : Int) (w : World) (hs : 1 < s.size) (hc : (s[0].toNat : Int) = 92) (hd : (s[1].toNat : Int) = d) (h120 : (d == 120) = false) (h92 : (d == 92) = false) (hi : idx [110, 114, 116] d = i) (hm : isMk m d = true) :
    Calls Try.prog 20 #[.string s, .agg #[.int .u64 m.w0, .int .u64 m.w1, .int .u64 m.w2, .int .u64 m.w3]] w fun e w' => e = .returned (.tuple #[.int .u8 d, .int .i64 2, .int .i64 0]) ∧ Keeps Non w w' := by
  have hs0 : 0 < s.size := by omega
  have e1 := not_empty hs0
  have z0 : (0 : Int) < (s.size : Int) := by omega
  have z1 : (1 : Int) < (s.size : Int) := by omega
  have z2 : ¬ (s.size : Int) < 2 := by omega
  have bd := u8_bd s[1]
  rw [hd] at bd
  have HM := hide (fun w => isMark_at m d _ w bd.1 bd.2 hm)
  have HI := hide (fun w => index_at ⟨#[110, 114, 116]⟩ d i w hi)
  clear bd hm hi
  go_enter Try.func20, Try.ntmps20
  go_wp2_with fail
  obtain ⟨W, hW⟩ : ∃ W, w.alloc (.cells #[.int .u64 m.w0, .int .u64 m.w1, .int .u64 m.w2, .int .u64 m.w3] 24) = W := ⟨_, rfl⟩
  have hk : Keeps Non w W := by rw [← hW]; exact (Keeps.refl _ _).alloc _
  have hb : Blk W w.heap.size [.int .u64 m.w0, .int .u64 m.w1, .int .u64 m.w2, .int .u64 m.w3] 24 := by rw [← hW]; exact Blk.new w _ _
  rw [hW]
  have HK := hide hk
  clear hW hk
  have lb := hb.lt
  have k0 : W.cell? ⟨w.heap.size, 0, none⟩ = some (.int .u64 m.w0) := hb.cell 0
  have k1 : W.cell? ⟨w.heap.size, 1, none⟩ = some (.int .u64 m.w1) := hb.cell 1
  have k2 : W.cell? ⟨w.heap.size, 2, none⟩ = some (.int .u64 m.w2) := hb.cell 2
  have k3 : W.cell? ⟨w.heap.size, 3, none⟩ = some (.int .u64 m.w3) := hb.cell 3
  clear hb
  refine wp_region_onto (by kernel_rfl) (by kernel_rfl) ?_
  repeat (go_big_quiet_step (first | (go_at_call 35; exact onto_call (HM.out _))))
  refine wpQuiet_nil ?_
  rintro _ ⟨u, rfl⟩
  go_wp2_with (first | (go_at_call 34; refine (HI.out _).mono ?_; rintro e w2 ⟨rfl, rfl⟩) | (go_at_call 35; refine (HM.out _).mono ?_; rintro e w2 ⟨rfl, hk2⟩))
  go_ret3
  exact ⟨rfl, (HK.out.then (onto_keeps W u)).then hk2⟩
set_option maxHeartbeats 1000000 in
theorem rb_none (m : Mk) (s : ByteArray) (d i : Int) (w : World) (hs : 1 < s.size) (hc : (s[0].toNat : Int) = 92) (hd : (s[1].toNat : Int) = d) (h120 : (d == 120) = false) (h92 : (d == 92) = false) (hi : idx [110, 114, 116] d = i) (hm : isMk m d = false) (hi0 : i < 0) :
    Calls Try.prog 20 #[.string s, .agg #[.int .u64 m.w0, .int .u64 m.w1, .int .u64 m.w2, .int .u64 m.w3]] w fun e w' => e = .returned (.tuple #[.int .u8 0, .int .i64 0, .int .i64 20]) ∧ Keeps Non w w' := by
  have hs0 : 0 < s.size := by omega
  have e1 := not_empty hs0
  have z0 : (0 : Int) < (s.size : Int) := by omega
  have z1 : (1 : Int) < (s.size : Int) := by omega
  have z2 : ¬ (s.size : Int) < 2 := by omega
  have bd := u8_bd s[1]
  rw [hd] at bd
  have HM := hide (fun w => isMark_at m d _ w bd.1 bd.2 hm)
  have HI := hide (fun w => index_at ⟨#[110, 114, 116]⟩ d i w hi)
  clear bd hm hi
  go_enter Try.func20, Try.ntmps20
  go_wp2_with fail
  obtain ⟨W, hW⟩ : ∃ W, w.alloc (.cells #[.int .u64 m.w0, .int .u64 m.w1, .int .u64 m.w2, .int .u64 m.w3] 24) = W := ⟨_, rfl⟩
  have hk : Keeps Non w W := by rw [← hW]; exact (Keeps.refl _ _).alloc _
  have hb : Blk W w.heap.size [.int .u64 m.w0, .int .u64 m.w1, .int .u64 m.w2, .int .u64 m.w3] 24 := by rw [← hW]; exact Blk.new w _ _
  rw [hW]
  have HK := hide hk
  clear hW hk
  have lb := hb.lt
  have k0 : W.cell? ⟨w.heap.size, 0, none⟩ = some (.int .u64 m.w0) := hb.cell 0
  have k1 : W.cell? ⟨w.heap.size, 1, none⟩ = some (.int .u64 m.w1) := hb.cell 1
  have k2 : W.cell? ⟨w.heap.size, 2, none⟩ = some (.int .u64 m.w2) := hb.cell 2
  have k3 : W.cell? ⟨w.heap.size, 3, none⟩ = some (.int .u64 m.w3) := hb.cell 3
  clear hb
  refine wp_region_onto (by kernel_rfl) (by kernel_rfl) ?_
  repeat (go_big_quiet_step (first | (go_at_call 35; exact onto_call (HM.out _))))
  refine wpQuiet_nil ?_
  rintro _ ⟨u, rfl⟩
  go_wp2_with (first | (go_at_call 34; refine (HI.out _).mono ?_; rintro e w2 ⟨rfl, rfl⟩) | (go_at_call 35; refine (HM.out _).mono ?_; rintro e w2 ⟨rfl, hk2⟩))
  go_ret3
  exact ⟨rfl, (HK.out.then (onto_keeps W u)).then hk2⟩
set_option maxHeartbeats 1000000 in
theorem rb_l0 (m : Mk) (s : ByteArray)  (w : World) (hs : 1 < s.size) (hc : (s[0].toNat : Int) = 92) (hd : (s[1].toNat : Int) = 110) :
    Calls Try.prog 20 #[.string s, .agg #[.int .u64 m.w0, .int .u64 m.w1, .int .u64 m.w2, .int .u64 m.w3]] w fun e w' => e = .returned (.tuple #[.int .u8 10, .int .i64 2, .int .i64 0]) ∧ Keeps Non w w' := by
  have hs0 : 0 < s.size := by omega
  have e1 := not_empty hs0
  have z0 : (0 : Int) < (s.size : Int) := by omega
  have z1 : (1 : Int) < (s.size : Int) := by omega
  have z2 : ¬ (s.size : Int) < 2 := by omega
  have hm : isMk m 110 = false := by simp [isMk, show letterB 110 = true from by decide]
  have HM := hide (fun w => isMark_at m 110 _ w (by omega) (by omega) hm)
  have HI := hide (fun w => index_at ⟨#[110, 114, 116]⟩ 110 0 w (by rfl))
  go_enter Try.func20, Try.ntmps20
  go_wp2_with fail
  obtain ⟨W, hW⟩ : ∃ W, w.alloc (.cells #[.int .u64 m.w0, .int .u64 m.w1, .int .u64 m.w2, .int .u64 m.w3] 24) = W := ⟨_, rfl⟩
  have hk : Keeps Non w W := by rw [← hW]; exact (Keeps.refl _ _).alloc _
  have hb : Blk W w.heap.size [.int .u64 m.w0, .int .u64 m.w1, .int .u64 m.w2, .int .u64 m.w3] 24 := by rw [← hW]; exact Blk.new w _ _
  rw [hW]
  have HK := hide hk
  clear hW hk
  have lb := hb.lt
  have k0 : W.cell? ⟨w.heap.size, 0, none⟩ = some (.int .u64 m.w0) := hb.cell 0
  have k1 : W.cell? ⟨w.heap.size, 1, none⟩ = some (.int .u64 m.w1) := hb.cell 1
  have k2 : W.cell? ⟨w.heap.size, 2, none⟩ = some (.int .u64 m.w2) := hb.cell 2
  have k3 : W.cell? ⟨w.heap.size, 3, none⟩ = some (.int .u64 m.w3) := hb.cell 3
  clear hb
  refine wp_region_onto (by kernel_rfl) (by kernel_rfl) ?_
  repeat (go_big_quiet_step (first | (go_at_call 35; exact onto_call (HM.out _))))
  refine wpQuiet_nil ?_
  rintro _ ⟨u, rfl⟩
  go_wp2_with (first | (go_at_call 34; refine (HI.out _).mono ?_; rintro e w2 ⟨rfl, rfl⟩) | (go_at_call 35; refine (HM.out _).mono ?_; rintro e w2 ⟨rfl, hk2⟩))
  go_ret3
  exact ⟨rfl, (HK.out.then (onto_keeps W u)).then hk2⟩
set_option maxHeartbeats 1000000 in
theorem rb_l1 (m : Mk) (s : ByteArray)  (w : World) (hs : 1 < s.size) (hc : (s[0].toNat : Int) = 92) (hd : (s[1].toNat : Int) = 114) :
    Calls Try.prog 20 #[.string s, .agg #[.int .u64 m.w0, .int .u64 m.w1, .int .u64 m.w2, .int .u64 m.w3]] w fun e w' => e = .returned (.tuple #[.int .u8 13, .int .i64 2, .int .i64 0]) ∧ Keeps Non w w' := by
  have hs0 : 0 < s.size := by omega
  have e1 := not_empty hs0
  have z0 : (0 : Int) < (s.size : Int) := by omega
  have z1 : (1 : Int) < (s.size : Int) := by omega
  have z2 : ¬ (s.size : Int) < 2 := by omega
  have hm : isMk m 114 = false := by simp [isMk, show letterB 114 = true from by decide]
  have HM := hide (fun w => isMark_at m 114 _ w (by omega) (by omega) hm)
  have HI := hide (fun w => index_at ⟨#[110, 114, 116]⟩ 114 1 w (by rfl))
  go_enter Try.func20, Try.ntmps20
  go_wp2_with fail
  obtain ⟨W, hW⟩ : ∃ W, w.alloc (.cells #[.int .u64 m.w0, .int .u64 m.w1, .int .u64 m.w2, .int .u64 m.w3] 24) = W := ⟨_, rfl⟩
  have hk : Keeps Non w W := by rw [← hW]; exact (Keeps.refl _ _).alloc _
  have hb : Blk W w.heap.size [.int .u64 m.w0, .int .u64 m.w1, .int .u64 m.w2, .int .u64 m.w3] 24 := by rw [← hW]; exact Blk.new w _ _
  rw [hW]
  have HK := hide hk
  clear hW hk
  have lb := hb.lt
  have k0 : W.cell? ⟨w.heap.size, 0, none⟩ = some (.int .u64 m.w0) := hb.cell 0
  have k1 : W.cell? ⟨w.heap.size, 1, none⟩ = some (.int .u64 m.w1) := hb.cell 1
  have k2 : W.cell? ⟨w.heap.size, 2, none⟩ = some (.int .u64 m.w2) := hb.cell 2
  have k3 : W.cell? ⟨w.heap.size, 3, none⟩ = some (.int .u64 m.w3) := hb.cell 3
  clear hb
  refine wp_region_onto (by kernel_rfl) (by kernel_rfl) ?_
  repeat (go_big_quiet_step (first | (go_at_call 35; exact onto_call (HM.out _))))
  refine wpQuiet_nil ?_
  rintro _ ⟨u, rfl⟩
  go_wp2_with (first | (go_at_call 34; refine (HI.out _).mono ?_; rintro e w2 ⟨rfl, rfl⟩) | (go_at_call 35; refine (HM.out _).mono ?_; rintro e w2 ⟨rfl, hk2⟩))
  go_ret3
  exact ⟨rfl, (HK.out.then (onto_keeps W u)).then hk2⟩
set_option maxHeartbeats 1000000 in
theorem rb_l2 (m : Mk) (s : ByteArray)  (w : World) (hs : 1 < s.size) (hc : (s[0].toNat : Int) = 92) (hd : (s[1].toNat : Int) = 116) :
    Calls Try.prog 20 #[.string s, .agg #[.int .u64 m.w0, .int .u64 m.w1, .int .u64 m.w2, .int .u64 m.w3]] w fun e w' => e = .returned (.tuple #[.int .u8 9, .int .i64 2, .int .i64 0]) ∧ Keeps Non w w' := by
  have hs0 : 0 < s.size := by omega
  have e1 := not_empty hs0
  have z0 : (0 : Int) < (s.size : Int) := by omega
  have z1 : (1 : Int) < (s.size : Int) := by omega
  have z2 : ¬ (s.size : Int) < 2 := by omega
  have hm : isMk m 116 = false := by simp [isMk, show letterB 116 = true from by decide]
  have HM := hide (fun w => isMark_at m 116 _ w (by omega) (by omega) hm)
  have HI := hide (fun w => index_at ⟨#[110, 114, 116]⟩ 116 2 w (by rfl))
  go_enter Try.func20, Try.ntmps20
  go_wp2_with fail
  obtain ⟨W, hW⟩ : ∃ W, w.alloc (.cells #[.int .u64 m.w0, .int .u64 m.w1, .int .u64 m.w2, .int .u64 m.w3] 24) = W := ⟨_, rfl⟩
  have hk : Keeps Non w W := by rw [← hW]; exact (Keeps.refl _ _).alloc _
  have hb : Blk W w.heap.size [.int .u64 m.w0, .int .u64 m.w1, .int .u64 m.w2, .int .u64 m.w3] 24 := by rw [← hW]; exact Blk.new w _ _
  rw [hW]
  have HK := hide hk
  clear hW hk
  have lb := hb.lt
  have k0 : W.cell? ⟨w.heap.size, 0, none⟩ = some (.int .u64 m.w0) := hb.cell 0
  have k1 : W.cell? ⟨w.heap.size, 1, none⟩ = some (.int .u64 m.w1) := hb.cell 1
  have k2 : W.cell? ⟨w.heap.size, 2, none⟩ = some (.int .u64 m.w2) := hb.cell 2
  have k3 : W.cell? ⟨w.heap.size, 3, none⟩ = some (.int .u64 m.w3) := hb.cell 3
  clear hb
  refine wp_region_onto (by kernel_rfl) (by kernel_rfl) ?_
  repeat (go_big_quiet_step (first | (go_at_call 35; exact onto_call (HM.out _))))
  refine wpQuiet_nil ?_
  rintro _ ⟨u, rfl⟩
  go_wp2_with (first | (go_at_call 34; refine (HI.out _).mono ?_; rintro e w2 ⟨rfl, rfl⟩) | (go_at_call 35; refine (HM.out _).mono ?_; rintro e w2 ⟨rfl, hk2⟩))
  go_ret3
  exact ⟨rfl, (HK.out.then (onto_keeps W u)).then hk2⟩
end Go.Proofs.Ytoogopcaieodoaa
