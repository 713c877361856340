/-
  The walk over layer 35's awake: it returns true, and turns nothing that was there. No condition.
-/
import Derived.Test.YtfjofiofgjlgiaaJ
import Derived.Laws.EntriesVeiled
namespace Go.Proofs.Ytfjofiofgjlgiaa
open Go.RowKit
set_option maxRecDepth 100000 in
set_option maxHeartbeats 1000000 in
theorem awake_any (w : World) :
    Calls Try.prog 18 #[] w fun e w' => e = .returned (.bool true) ∧ Keeps Non w w' := by
  have hmf : ∀ (fn : Fn) (first cap : Array Value) (w : World), (Instr.makeFunc fn first cap).run Try.prog w = .ok (.func fn first cap) w := fun _ _ _ _ => rfl
  have q47 : ∀ b w, (binOp .eql 47 (.pointer (some ⟨b, 0, none⟩)) (.pointer none)).run Try.prog w = .ok (.bool false) w := fun _ _ => by kernel_rfl
  have t1 := ta_yes
  have t2 := te_yes
  go_enter Try.func18, Try.ntmps18
  go_wp2_with fail
  refine (new_ok 5 _ (by omega) (by omega)).mono ?_
  rintro e w1 ⟨rfl, hm, hk1, hlt⟩
  have L1 := hm.lt
  have M1 : Mtr (w1.alloc (.cells #[.pointer (some ⟨w.heap.size, 0, none⟩)] 47)) w.heap.size 5 5 0 := Blk.alloc hm _
  have B1 : Blk (w1.alloc (.cells #[.pointer (some ⟨w.heap.size, 0, none⟩)] 47)) w1.heap.size [.pointer (some ⟨w.heap.size, 0, none⟩)] 47 := Blk.new _ _ _
  have K1 : Keeps Non w (w1.alloc (.cells #[.pointer (some ⟨w.heap.size, 0, none⟩)] 47)) := hk1.alloc _
  go_wp2_with fail
  refine (use_ok _ 5 5 0 3 _ M1 (by omega) (by omega) (by omega) (by omega) (by omega)).mono ?_
  rintro e w2 ⟨rfl, M2, hk2⟩
  have K2 : Keeps Non w w2 := K1.trans hk2 (fun i hi x => by omega)
  have B2 := B1.keeps hk2 (by omega)
  clear M1 B1 K1 hk2
  have b2 : w2.cell? ⟨w1.heap.size, 0, none⟩ = some (.pointer (some ⟨w.heap.size, 0, none⟩)) := B2.cell 0
  go_wp2_with fail
  refine (use_ok _ 5 2 3 2 _ M2 (by omega) (by omega) (by omega) (by omega) (by omega)).mono ?_
  rintro e w3 ⟨rfl, M3, hk2⟩
  have K3 : Keeps Non w w3 := K2.trans hk2 (fun i hi x => by omega)
  have B3 := B2.keeps hk2 (by omega)
  clear M2 B2 K2 hk2 b2
  have b3 : w3.cell? ⟨w1.heap.size, 0, none⟩ = some (.pointer (some ⟨w.heap.size, 0, none⟩)) := B3.cell 0
  go_wp2_with (first | (go_at_call 31; refine (left_any _ _ _ _ _ M3).mono ?_; rintro e w' ⟨rfl, rfl⟩) | (go_at_call 32; refine (used_any _ _ _ _ _ M3).mono ?_; rintro e w' ⟨rfl, rfl⟩))
  -- the first Catch
  refine (aw_c1 _ _ _ _ w3 B3 M3).mono ?_
  rintro e w4 ⟨rfl, hk2⟩
  have L3 := M3.lt
  have M4 : Mtr w4 _ _ _ _ := Blk.keeps M3 hk2 (fun x => x)
  have B4 := B3.keeps hk2 (fun x => x)
  have K4 : Keeps Non w w4 := K3.then hk2
  clear hk2 K3 B3 M3 b3
  have F5 : Blk (w4.alloc (.cells #[.int .u8 1, .int .i64 1] 23)) w4.heap.size [.int .u8 1, .int .i64 1] 23 := Blk.new _ _ _
  have M5 : Mtr (w4.alloc (.cells #[.int .u8 1, .int .i64 1] 23)) _ _ _ _ := Blk.alloc M4 _
  have B5 := B4.alloc (.cells #[.int .u8 1, .int .i64 1] 23)
  have K5 := K4.alloc (.cells #[.int .u8 1, .int .i64 1] 23)
  clear M4 B4 K4
  go_wp2_with fail
  -- the second Catch
  refine (aw_c2 _).mono ?_
  rintro e w6 ⟨rfl, hk2⟩
  have M6 : Mtr w6 _ _ _ _ := Blk.keeps M5 hk2 (fun x => x)
  have B6 := B5.keeps hk2 (fun x => x)
  have F6 := F5.keeps hk2 (fun x => x)
  have K6 : Keeps Non w w6 := K5.then hk2
  clear hk2 K5 B5 M5 F5
  have G7 : Blk (w6.alloc (.cells #[.int .u8 2, .int .i64 3] 23)) w6.heap.size [.int .u8 2, .int .i64 3] 23 := Blk.new _ _ _
  have M7 : Mtr (w6.alloc (.cells #[.int .u8 2, .int .i64 3] 23)) _ _ _ _ := Blk.alloc M6 _
  have B7 := B6.alloc (.cells #[.int .u8 2, .int .i64 3] 23)
  have F7 := F6.alloc (.cells #[.int .u8 2, .int .i64 3] 23)
  have K7 := K6.alloc (.cells #[.int .u8 2, .int .i64 3] 23)
  have L4 := F6.lt
  clear M6 B6 K6 F6
  have f0 : (World.cell? _ ⟨w4.heap.size, 0, none⟩) = some (.int .u8 1) := F7.cell 0
  have f1 : (World.cell? _ ⟨w4.heap.size, 1, none⟩) = some (.int .i64 1) := F7.cell 1
  go_wp2_with fail
  obtain ⟨w7, h7⟩ : ∃ w7, w6.alloc (.cells #[.int .u8 2, .int .i64 3] 23) = w7 := ⟨_, rfl⟩
  rw [h7] at M7 B7 F7 K7 f0 f1 ⊢
  have L7 : w4.heap.size < w7.heap.size := F7.lt
  clear h7 G7
  refine (fits_yes ⟨#[97, 98, 99]⟩ 3 _ (by decide) (by decide)).mono ?_
  rintro e w' ⟨rfl, rfl⟩
  have P9 : Blk ((w7.alloc (.cells #[.func (.func 46) #[] #[.pointer (some ⟨w1.heap.size, 0, none⟩)]] 52)).alloc (.cells #[.func (.func 47) #[] #[]] 64)) w7.heap.size [.func (.func 46) #[] #[.pointer (some ⟨w1.heap.size, 0, none⟩)]] 52 := (Blk.new _ _ _).alloc _
  have Q9 : Blk ((w7.alloc (.cells #[.func (.func 46) #[] #[.pointer (some ⟨w1.heap.size, 0, none⟩)]] 52)).alloc (.cells #[.func (.func 47) #[] #[]] 64)) (w7.heap.size + 1) [.func (.func 47) #[] #[]] 64 := by
    have := Blk.new (w7.alloc (.cells #[.func (.func 46) #[] #[.pointer (some ⟨w1.heap.size, 0, none⟩)]] 52)) [.func (.func 47) #[] #[]] 64
    simpa using this
  have M9 := (Blk.alloc M7 (.cells #[.func (.func 46) #[] #[.pointer (some ⟨w1.heap.size, 0, none⟩)]] 52)).alloc (.cells #[.func (.func 47) #[] #[]] 64)
  have B9 := (B7.alloc (.cells #[.func (.func 46) #[] #[.pointer (some ⟨w1.heap.size, 0, none⟩)]] 52)).alloc (.cells #[.func (.func 47) #[] #[]] 64)
  have F9 := (F7.alloc (.cells #[.func (.func 46) #[] #[.pointer (some ⟨w1.heap.size, 0, none⟩)]] 52)).alloc (.cells #[.func (.func 47) #[] #[]] 64)
  have K9 := (K7.alloc (.cells #[.func (.func 46) #[] #[.pointer (some ⟨w1.heap.size, 0, none⟩)]] 52)).alloc (.cells #[.func (.func 47) #[] #[]] 64)
  clear M7 B7 F7 K7
  go_wp2_with fail
  obtain ⟨w9, h9⟩ : ∃ w9, (w7.alloc (.cells #[.func (.func 46) #[] #[.pointer (some ⟨w1.heap.size, 0, none⟩)]] 52)).alloc (.cells #[.func (.func 47) #[] #[]] 64) = w9 := ⟨_, rfl⟩
  rw [h9] at M9 B9 F9 K9 P9 Q9 ⊢
  clear h9 f0 f1
  have M9' : Mtr w9 w.heap.size 5 0 5 := M9
  refine (aw_or _ _ _ _ w9 B9 M9').mono ?_
  rintro e w10 ⟨rfl, hk2⟩
  have M10 : Mtr _ _ _ _ _ := Blk.keeps M9' hk2 (fun x => x)
  have B10 := B9.keeps hk2 (fun x => x)
  have F10 := F9.keeps hk2 (fun x => x)
  have P10 := P9.keeps hk2 (fun x => x)
  have Q10 := Q9.keeps hk2 (fun x => x)
  have K10 := K9.then hk2
  clear hk2 M9 M9' B9 F9 P9 Q9 K9
  go_wp2_with fail
  refine (aw_out5 _ _ _ _ _ _ w10 P10 Q10 B10 M10).mono ?_
  rintro e w11 ⟨rfl, hk2⟩
  have F11 := F10.keeps hk2 (fun x => x)
  have K11 := K10.then hk2
  clear hk2 M10 B10 P10 Q10 F10 K10
  have L11 := F11.lt
  have D12 : Blk (w11.alloc (.cells #[.int .u8 1, .int .i64 1] 23)) w11.heap.size [.int .u8 1, .int .i64 1] 23 := Blk.new _ _ _
  have F12 := F11.alloc (.cells #[.int .u8 1, .int .i64 1] 23)
  have K12 := K11.alloc (.cells #[.int .u8 1, .int .i64 1] 23)
  clear F11 K11
  go_wp2_with fail
  refine (aw_out6 _).mono ?_
  rintro e w13 ⟨v, rfl, hk2⟩
  have F13 := F12.keeps hk2 (fun x => x)
  have D13 := D12.keeps hk2 (fun x => x)
  have K13 := K12.then hk2
  clear hk2 F12 D12 K12
  have f0 : w13.cell? ⟨w4.heap.size, 0, none⟩ = some (.int .u8 1) := F13.cell 0
  have f1 : w13.cell? ⟨w4.heap.size, 1, none⟩ = some (.int .i64 1) := F13.cell 1
  have d0 : w13.cell? ⟨w11.heap.size, 0, none⟩ = some (.int .u8 1) := D13.cell 0
  have d1 : w13.cell? ⟨w11.heap.size, 1, none⟩ = some (.int .i64 1) := D13.cell 1
  go_wp2_with fail
  go_ret
  exact ⟨rfl, K13⟩
end Go.Proofs.Ytfjofiofgjlgiaa
