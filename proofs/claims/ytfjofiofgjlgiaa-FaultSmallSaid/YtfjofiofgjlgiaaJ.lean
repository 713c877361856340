/-
  Walks over layer 35: the closures of awake. No condition.
-/
import Derived.Test.YtfjofiofgjlgiaaH
import Derived.Test.YtfjofiofgjlgiaaI
namespace Go.Proofs.Ytfjofiofgjlgiaa
open Go.RowKit
theorem noExit_nil : NoExit [] := rfl
theorem aw1 (b mb : Nat) (f u : Int) (w : World) (hb : Blk w b [.pointer (some ⟨mb, 0, none⟩)] 47) (hm : Mtr w mb f 0 u) :
    Calls Try.prog 44 #[.pointer (some ⟨b, 0, none⟩)] w fun e w' => e = .panicked [{ v := .iface 23 (flt 1 1), recovered := false }] ∧ w = w' := by
  have b0 : w.cell? ⟨b, 0, none⟩ = _ := hb.cell 0
  simp only [List.getElem?_cons_zero] at b0
  go_enter Try.func44, Try.ntmps44
  go_wp2_with (go_at_call 30; refine (use_no mb f 0 u 1 _ hm (by omega) (by omega)).mono ?_; rintro e w' ⟨rfl, rfl⟩)
  exact ⟨rfl, rfl, rfl⟩
theorem aw2 (w : World) :
    Calls Try.prog 45 #[] w fun e w' => e = .panicked [{ v := .iface 23 (flt 2 3), recovered := false }] ∧ w = w' := by
  go_enter Try.func45, Try.ntmps45
  go_wp2_with (go_at_call 25; refine (fits_no ⟨#[97, 98, 99]⟩ 2 _ (by omega) (by decide) (by decide)).mono ?_; rintro e w' ⟨rfl, rfl⟩)
  exact ⟨rfl, rfl, rfl⟩
theorem aw3 (b mb : Nat) (f u : Int) (w : World) (hb : Blk w b [.pointer (some ⟨mb, 0, none⟩)] 47) (hm : Mtr w mb f 0 u) :
    Calls Try.prog 46 #[.pointer (some ⟨b, 0, none⟩)] w fun e w' => e = .panicked [{ v := .iface 23 (flt 1 1), recovered := false }] ∧ w = w' := by
  have b0 : w.cell? ⟨b, 0, none⟩ = _ := hb.cell 0
  simp only [List.getElem?_cons_zero] at b0
  go_enter Try.func46, Try.ntmps46
  go_wp2_with (go_at_call 30; refine (use_no mb f 0 u 1 _ hm (by omega) (by omega)).mono ?_; rintro e w' ⟨rfl, rfl⟩)
  exact ⟨rfl, rfl, rfl⟩
theorem aw4 (k m : Int) (w : World) :
    Calls Try.prog 47 #[flt k m] w fun e w' => e = .returned (.int .i64 m) ∧ Keeps Non w w' := by
  unfold flt
  go_enter Try.func47, Try.ntmps47
  go_wp2
  go_ret
  exact ⟨rfl, (Keeps.refl _ _).alloc _⟩
theorem aw50 (w : World) :
    Calls Try.prog 50 #[] w fun e w' => (∃ v older, e = .panicked ({ v := .iface 8 v, recovered := false } :: older) ∧ NoExit older) ∧ Keeps Non w w' := by
  go_enter Try.func50, Try.ntmps50
  go_wp2_with (go_at_call 16; refine (boom_any 0 _).mono ?_; rintro e w' ⟨⟨v, rfl⟩, hk⟩)
  exact ⟨rfl, ⟨_, [], rfl, rfl⟩, by assumption⟩
theorem aw6 (w : World) :
    Calls Try.prog 49 #[] w fun e w' => (∃ v older, e = .panicked ({ v := .iface 8 v, recovered := false } :: older) ∧ NoExit older) ∧ Keeps Non w w' := by
  go_enter Try.func49, Try.ntmps49
  go_wp2_with fail
  refine (catch_on 50 #[] w Non (fun _ => True) (fun _ _ => by kernel_rfl) (fun W0 hW => (aw50 W0).mono fun e w' ⟨h1, h2⟩ => ⟨h1, h2, trivial⟩)).mono ?_
  rintro e w' ⟨⟨v, older, rfl, hno⟩, hk, W1, _, _⟩
  have H := hide hno
  clear hno
  go_wp2
  exact ⟨rfl, ⟨v, older, rfl, H.out⟩, hk⟩
/-- What 'uses' does. -/
theorem aw3k (b mb : Nat) (f u : Int) (w : World) (hb : Blk w b [.pointer (some ⟨mb, 0, none⟩)] 47) (hm : Mtr w mb f 0 u) :
    ∀ W0, Keeps Non w W0 → Calls Try.prog 46 #[.pointer (some ⟨b, 0, none⟩)] W0 fun e W1 => (∃ older, e = .panicked ({ v := .iface 23 (flt 1 1), recovered := false } :: older) ∧ NoExit older) ∧ Keeps Non W0 W1 ∧ True :=
  fun W0 hW => (aw3 b mb f u W0 (hb.keeps hW (fun x => x)) (Blk.keeps hm hW (fun x => x))).mono fun e w' ⟨he, hw⟩ => ⟨⟨[], he, rfl⟩, by rw [hw]; exact Keeps.refl _ _, trivial⟩
theorem aw5 (p q b mb : Nat) (f u : Int) (w : World) (hp : Blk w p [.func (.func 46) #[] #[.pointer (some ⟨b, 0, none⟩)]] 52) (hq : Blk w q [.func (.func 47) #[] #[]] 64) (hb : Blk w b [.pointer (some ⟨mb, 0, none⟩)] 47) (hm : Mtr w mb f 0 u) :
    Calls Try.prog 48 #[.pointer (some ⟨p, 0, none⟩), .pointer (some ⟨q, 0, none⟩)] w fun e w' => e = .panicked [{ v := .iface 23 (flt 1 1), recovered := false }] ∧ Keeps Non w w' := by
  have p0 : w.cell? ⟨p, 0, none⟩ = _ := hp.cell 0
  have q0 : w.cell? ⟨q, 0, none⟩ = _ := hq.cell 0
  simp only [List.getElem?_cons_zero] at p0 q0
  go_enter Try.func48, Try.ntmps48
  go_wp2_with fail
  refine (orI_other 46 47 #[.pointer (some ⟨b, 0, none⟩)] #[] 2 1 1 w Non (fun _ => True) thereB_2 thereB_1 (by decide) (fun _ _ => by kernel_rfl) (fun _ x => x.elim) (aw3k b mb f u w hb hm)).mono ?_
  rintro e w' ⟨rfl, hk, W1, _, _⟩
  go_wp2
  exact ⟨rfl, rfl, hk⟩
theorem aw_or (b mb : Nat) (f u : Int) (w : World) (hb : Blk w b [.pointer (some ⟨mb, 0, none⟩)] 47) (hm : Mtr w mb f 0 u) :
    Calls Try.prog 38 #[.func (.func 46) #[] #[.pointer (some ⟨b, 0, none⟩)], .int .u8 1, .func (.func 47) #[] #[]] w fun e w' => e = .returned (.tuple #[.int .i64 1, .int .i64 0]) ∧ Keeps Non w w' := by
  refine (orI_same 46 47 #[.pointer (some ⟨b, 0, none⟩)] #[] 1 1 w Non Non (fun _ => True) (fun _ => True) 1 thereB_1 (fun _ _ => by kernel_rfl) (fun _ _ => by kernel_rfl) (fun _ x => x.elim) (aw3k _ _ _ _ w hb hm)
    (fun W0 _ _ _ _ => ?_)).mono fun e w' ⟨he, hk, _⟩ => ⟨he, hk.weak (fun _ _ x => x.elim id id)⟩
  exact (aw4 1 1 W0).mono fun e w' ⟨he, hw⟩ => ⟨he, hw, trivial⟩
theorem aw_out5 (p q b mb : Nat) (f u : Int) (w : World) (hp : Blk w p [.func (.func 46) #[] #[.pointer (some ⟨b, 0, none⟩)]] 52) (hq : Blk w q [.func (.func 47) #[] #[]] 64) (hb : Blk w b [.pointer (some ⟨mb, 0, none⟩)] 47) (hm : Mtr w mb f 0 u) :
    Calls Try.prog 11 #[.func (.func 48) #[] #[.pointer (some ⟨p, 0, none⟩), .pointer (some ⟨q, 0, none⟩)]] w fun e w' => e = .returned (.iface 23 (.agg #[.int .u8 1, .int .i64 1])) ∧ Keeps Non w w' := by
  refine (outside_panic 48 _ w Non 23 (fun v _ => v = flt 1 1) (fun _ _ => by kernel_rfl) (fun _ x => x.elim)
    (fun W0 hW => (aw5 _ _ _ _ _ _ W0 (hp.keeps hW (fun x => x)) (hq.keeps hW (fun x => x)) (hb.keeps hW (fun x => x)) (Blk.keeps hm hW (fun x => x))).mono fun e w' ⟨he, hw⟩ => ⟨⟨_, [], he, rfl, rfl⟩, hw⟩)).mono ?_
  rintro e w' ⟨v, rfl, hk, _, rfl, _⟩
  exact ⟨rfl, hk⟩
theorem aw_out6 (w : World) :
    Calls Try.prog 11 #[.func (.func 49) #[] #[]] w fun e w' => ∃ v, e = .returned (.iface 8 v) ∧ Keeps Non w w' := by
  refine (outside_panic 49 _ _ Non 8 (fun _ _ => True) (fun _ _ => by kernel_rfl) (fun _ x => x.elim)
    (fun W0 hW => (aw6 W0).mono fun e w' ⟨⟨v, older, he, hn⟩, hw⟩ => ⟨⟨v, older, he, hn, trivial⟩, hw⟩)).mono ?_
  rintro e w' ⟨v, rfl, hk, _⟩
  exact ⟨v, rfl, hk⟩
theorem aw_c1 (b mb : Nat) (f u : Int) (w : World) (hb : Blk w b [.pointer (some ⟨mb, 0, none⟩)] 47) (hm : Mtr w mb f 0 u) :
    Calls Try.prog 13 #[.func (.func 44) #[] #[.pointer (some ⟨b, 0, none⟩)]] w fun e w' => e = .returned (.tuple #[.agg #[.int .u8 1, .int .i64 1], .bool true, .int .i64 0]) ∧ Keeps Non w w' := by
  refine (catch_fault 44 _ w Non 1 1 (fun _ => True) thereB_1 (fun _ _ => by kernel_rfl) (fun _ x => x.elim)
    (fun W0 hW => (aw1 _ _ _ _ _ (hb.keeps hW (fun x => x)) (Blk.keeps hm hW (fun x => x))).mono fun e w' ⟨he, hw⟩ => ⟨⟨[], he, rfl⟩, by rw [hw]; exact Keeps.refl _ _, trivial⟩)).mono ?_
  rintro e w' ⟨rfl, hk, _⟩
  exact ⟨rfl, hk⟩
theorem aw_c2 (w : World) :
    Calls Try.prog 13 #[.func (.func 45) #[] #[]] w fun e w' => e = .returned (.tuple #[.agg #[.int .u8 2, .int .i64 3], .bool true, .int .i64 0]) ∧ Keeps Non w w' := by
  refine (catch_fault 45 _ _ Non 2 3 (fun _ => True) thereB_2 (fun _ _ => by kernel_rfl) (fun _ x => x.elim)
    (fun W0 hW => (aw2 _).mono fun e w' ⟨he, hw⟩ => ⟨⟨[], he, rfl⟩, by rw [hw]; exact Keeps.refl _ _, trivial⟩)).mono ?_
  rintro e w' ⟨rfl, hk, _⟩
  exact ⟨rfl, hk⟩
end Go.Proofs.Ytfjofiofgjlgiaa
