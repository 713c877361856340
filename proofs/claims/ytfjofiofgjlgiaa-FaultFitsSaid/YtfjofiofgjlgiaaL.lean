/-
  The walk over FaultFits: it returns true, and turns nothing that was there. No condition.
-/
import Derived.Test.YtfjofiofgjlgiaaK
namespace Go.Proofs.Ytfjofiofgjlgiaa
open Go.RowKit
theorem ff_yes (a b : Nat) (s : ByteArray) (most : Int) (w : World) (ha : Blk w a [.string s] 9) (hb : Blk w b [.int .i64 most] 3) (hs : s.size ≤ 1048576) (h : most < 0 ∨ (s.size : Int) ≤ most) :
    Calls Try.prog 24 #[.pointer (some ⟨a, 0, none⟩), .pointer (some ⟨b, 0, none⟩)] w fun e w' => e = .returned (.string s) ∧ w = w' := by
  have a0 : w.cell? ⟨a, 0, none⟩ = some (.string s) := ha.cell 0
  have b0 : w.cell? ⟨b, 0, none⟩ = some (.int .i64 most) := hb.cell 0
  have H := hide h
  clear h
  go_enter Try.func24, Try.ntmps24
  go_wp2_with (go_at_call 25; refine (fits_yes s most _ hs H.out).mono ?_; rintro e w' ⟨rfl, rfl⟩)
  go_ret
  exact ⟨rfl, rfl⟩
theorem ff_no (a b : Nat) (s : ByteArray) (most : Int) (w : World) (ha : Blk w a [.string s] 9) (hb : Blk w b [.int .i64 most] 3) (hs : s.size ≤ 1048576) (h0 : 0 ≤ most) (h : most < (s.size : Int)) :
    Calls Try.prog 24 #[.pointer (some ⟨a, 0, none⟩), .pointer (some ⟨b, 0, none⟩)] w fun e w' => e = .panicked [{ v := .iface 23 (flt 2 s.size), recovered := false }] ∧ w = w' := by
  have a0 : w.cell? ⟨a, 0, none⟩ = some (.string s) := ha.cell 0
  have b0 : w.cell? ⟨b, 0, none⟩ = some (.int .i64 most) := hb.cell 0
  go_enter Try.func24, Try.ntmps24
  go_wp2_with (go_at_call 25; refine (fits_no s most _ h0 hs h).mono ?_; rintro e w' ⟨rfl, rfl⟩)
  exact ⟨rfl, rfl, rfl⟩
theorem ff_try_yes (a b : Nat) (s : ByteArray) (most : Int) (w : World) (ha : Blk w a [.string s] 9) (hb : Blk w b [.int .i64 most] 3) (hs : s.size ≤ 1048576) (h : most < 0 ∨ (s.size : Int) ≤ most) :
    Calls Try.prog 20 #[.func (.func 24) #[] #[.pointer (some ⟨a, 0, none⟩), .pointer (some ⟨b, 0, none⟩)]] w fun e w' => e = .returned (.tuple #[.string s, .agg #[.int .u8 0, .int .i64 0], .bool false, .int .i64 0]) ∧ Keeps Non w w' :=
  (tryS_ret 24 _ w Non (fun _ => True) s (fun _ _ => by kernel_rfl) (fun _ x => x.elim) (fun W0 hW => (ff_yes a b s most W0 (ha.keeps hW (fun x => x)) (hb.keeps hW (fun x => x)) hs h).mono
    fun e w' ⟨he, hw⟩ => ⟨he, by rw [hw]; exact Keeps.refl _ _, trivial⟩)).mono fun e w' ⟨he, hk, _⟩ => ⟨he, hk⟩
theorem ff_try_no (a b : Nat) (s : ByteArray) (most : Int) (w : World) (ha : Blk w a [.string s] 9) (hb : Blk w b [.int .i64 most] 3) (hs : s.size ≤ 1048576) (h0 : 0 ≤ most) (h : most < (s.size : Int)) :
    Calls Try.prog 20 #[.func (.func 24) #[] #[.pointer (some ⟨a, 0, none⟩), .pointer (some ⟨b, 0, none⟩)]] w fun e w' => e = .returned (.tuple #[.string ⟨#[]⟩, .agg #[.int .u8 2, .int .i64 s.size], .bool true, .int .i64 0]) ∧ Keeps Non w w' :=
  (tryS_fault 24 _ w Non (fun _ => True) 2 s.size thereB_2 (fun _ _ => by kernel_rfl) (fun _ x => x.elim) (fun W0 hW => (ff_no a b s most W0 (ha.keeps hW (fun x => x)) (hb.keeps hW (fun x => x)) hs h0 h).mono
    fun e w' ⟨he, hw⟩ => ⟨⟨[], he, rfl⟩, by rw [hw]; exact Keeps.refl _ _, trivial⟩)).mono fun e w' ⟨he, hk, _⟩ => ⟨he, hk⟩

set_option maxHeartbeats 1000000 in
theorem law_fits (s : ByteArray) (most : Int) (w : World) :
    Calls Try.prog 5 #[.string s, .int .i64 most] w fun e w' => e = .returned (.bool true) ∧ Keeps Non w w' := by
  have hmf : ∀ (fn : Fn) (first cap : Array Value) (w : World), (Instr.makeFunc fn first cap).run Try.prog w = .ok (.func fn first cap) w := fun _ _ _ _ => rfl
  obtain ⟨W, hW⟩ : ∃ W, (w.alloc (.cells #[.string s] 9)).alloc (.cells #[.int .i64 most] 3) = W := ⟨_, rfl⟩
  have hk : Keeps Non w W := by rw [← hW]; exact ((Keeps.refl _ _).alloc _).alloc _
  have ha : Blk W w.heap.size [.string s] 9 := by rw [← hW]; exact (Blk.new w _ _).alloc _
  have hb : Blk W (w.heap.size + 1) [.int .i64 most] 3 := by
    have := Blk.new (w.alloc (.cells #[.string s] 9)) [.int .i64 most] 3
    rw [← hW]; simpa using this
  by_cases h3 : 3000 < (s.size : Int)
  · clear hW ha hb hk
    go_enter Try.func5, Try.ntmps5
    go_wp2_with (go_at_call 18; refine (awake_any _).mono ?_; rintro e w' ⟨rfl, hk⟩)
    go_ret
    exact ⟨rfl, (((Keeps.refl _ w).alloc _).alloc _).then (by assumption)⟩
  · by_cases h4 : 0 ≤ most ∧ most < (s.size : Int)
    · obtain ⟨h5, h6⟩ := h4
      have HC := hide (ff_try_no _ _ s most W ha hb (by omega) h5 h6)
      have HW := hide hW
      clear hW
      go_enter Try.func5, Try.ntmps5
      go_wp2_with fail
      rw [HW.out]
      refine HC.out.mono ?_
      rintro e w2 ⟨rfl, hk2⟩
      have ha2 := ha.keeps hk2 (fun x => x)
      have hb2 := hb.keeps hk2 (fun x => x)
      have hkw := hk.then hk2
      have la := ha2.lt
      have lb := hb2.lt
      have a0 : w2.cell? ⟨w.heap.size, 0, none⟩ = some (.string s) := ha2.cell 0
      have b0 : w2.cell? ⟨w.heap.size + 1, 0, none⟩ = some (.int .i64 most) := hb2.cell 0
      clear ha hb ha2 hb2 hk hk2 HW HC
      go_wp2_with (go_at_call 18; refine (awake_any _).mono ?_; rintro e w' ⟨rfl, hk⟩)
      go_ret
      exact ⟨rfl, (hkw.alloc _).then (by assumption)⟩
    · have HC := hide (ff_try_yes _ _ s most W ha hb (by omega) (by omega))
      have HW := hide hW
      clear hW
      by_cases h5 : 0 ≤ most
      · have h6 : ¬ most < (s.size : Int) := fun h => h4 ⟨h5, h⟩
        clear h4
        go_enter Try.func5, Try.ntmps5
        go_wp2_with fail
        rw [HW.out]
        refine HC.out.mono ?_
        rintro e w2 ⟨rfl, hk2⟩
        have ha2 := ha.keeps hk2 (fun x => x)
        have hb2 := hb.keeps hk2 (fun x => x)
        have hkw := hk.then hk2
        have la := ha2.lt
        have lb := hb2.lt
        have a0 : w2.cell? ⟨w.heap.size, 0, none⟩ = some (.string s) := ha2.cell 0
        have b0 : w2.cell? ⟨w.heap.size + 1, 0, none⟩ = some (.int .i64 most) := hb2.cell 0
        clear ha hb ha2 hb2 hk hk2 HW HC
        go_wp2_with (go_at_call 18; refine (awake_any _).mono ?_; rintro e w' ⟨rfl, hk⟩)
        go_ret
        exact ⟨rfl, (hkw.alloc _).then (by assumption)⟩
      · clear h4
        go_enter Try.func5, Try.ntmps5
        go_wp2_with fail
        rw [HW.out]
        refine HC.out.mono ?_
        rintro e w2 ⟨rfl, hk2⟩
        have ha2 := ha.keeps hk2 (fun x => x)
        have hb2 := hb.keeps hk2 (fun x => x)
        have hkw := hk.then hk2
        have la := ha2.lt
        have lb := hb2.lt
        have a0 : w2.cell? ⟨w.heap.size, 0, none⟩ = some (.string s) := ha2.cell 0
        have b0 : w2.cell? ⟨w.heap.size + 1, 0, none⟩ = some (.int .i64 most) := hb2.cell 0
        clear ha hb ha2 hb2 hk hk2 HW HC
        go_wp2_with (go_at_call 18; refine (awake_any _).mono ?_; rintro e w' ⟨rfl, hk⟩)
        go_ret
        exact ⟨rfl, (hkw.alloc _).then (by assumption)⟩
end Go.Proofs.Ytfjofiofgjlgiaa
