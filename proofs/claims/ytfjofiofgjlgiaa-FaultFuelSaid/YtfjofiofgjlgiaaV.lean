/-
  The walk over FaultFuel. No condition.
-/
import Derived.Test.YtfjofiofgjlgiaaS
import Derived.Test.YtfjofiofgjlgiaaRow
import Derived.Test.YtfjofiofgjlgiaaOnto
import Derived.LoopTactic
namespace Go.Proofs.Ytfjofiofgjlgiaa
open Go.RowKit
attribute [local go_sem] onto_cell onto_frozen
def cap29 (pb kb : Nat) : Array Value := #[.pointer (some ⟨pb, 0, none⟩), .pointer (some ⟨kb, 0, none⟩)]
theorem f29_ok (pb kb mb : Nat) (f l u k : Int) (w : World) (hp : Blk w pb [.pointer (some ⟨mb, 0, none⟩)] 47) (hk : Blk w kb [.int .i64 k] 3) (hm : Mtr w mb f l u) (h1 : 1 ≤ k) (h2 : k ≤ l) (hl : l ≤ 1048576) (hu0 : 0 ≤ u) (hu : u ≤ 100000) :
    Calls Try.prog 29 (cap29 pb kb) w fun e w' => (∃ v, e = .returned v) ∧ Keeps (fun i => i = mb) w w' ∧ Mtr w' mb f (l - k) (u + k) := by
  have p0 : w.cell? ⟨pb, 0, none⟩ = some (.pointer (some ⟨mb, 0, none⟩)) := hp.cell 0
  have k0 : w.cell? ⟨kb, 0, none⟩ = some (.int .i64 k) := hk.cell 0
  have HC := hide (use_ok mb f l u k w hm h1 h2 hl hu0 (by omega))
  clear hp hk hm
  unfold cap29
  go_enter Try.func29, Try.ntmps29
  go_wp2_with fail
  refine HC.out.mono ?_
  rintro e w2 ⟨rfl, hm, hk⟩
  have HM := hide (And.intro hm hk)
  clear hm hk
  go_wp2
  go_end0
  exact ⟨⟨_, rfl⟩, HM.out.2, HM.out.1⟩
theorem f29_no (pb kb mb : Nat) (f l u k : Int) (w : World) (hp : Blk w pb [.pointer (some ⟨mb, 0, none⟩)] 47) (hk : Blk w kb [.int .i64 k] 3) (hm : Mtr w mb f l u) (h1 : 1 ≤ k) (h2 : l < k) :
    Calls Try.prog 29 (cap29 pb kb) w fun e w' => (∃ older, e = .panicked ({ v := .iface 23 (flt 1 k), recovered := false } :: older) ∧ NoExit older) ∧ Keeps Non w w' ∧ True := by
  have p0 : w.cell? ⟨pb, 0, none⟩ = some (.pointer (some ⟨mb, 0, none⟩)) := hp.cell 0
  have k0 : w.cell? ⟨kb, 0, none⟩ = some (.int .i64 k) := hk.cell 0
  have HC := hide (use_no mb f l u k w hm h1 h2)
  clear hp hk hm
  unfold cap29
  go_enter Try.func29, Try.ntmps29
  go_wp2_with fail
  refine HC.out.mono ?_
  rintro e w2 ⟨rfl, rfl⟩
  go_wp2
  exact ⟨rfl, ⟨[], rfl, rfl⟩, Keeps.refl _ _, trivial⟩
theorem c29_ok (pb kb mb : Nat) (f l u k : Int) (w : World) (hp : Blk w pb [.pointer (some ⟨mb, 0, none⟩)] 47) (hk : Blk w kb [.int .i64 k] 3) (hm : Mtr w mb f l u) (h1 : 1 ≤ k) (h2 : k ≤ l) (hl : l ≤ 1048576) (hu0 : 0 ≤ u) (hu : u ≤ 100000) :
    Calls Try.prog 13 #[.func (.func 29) #[] #[.pointer (some ⟨pb, 0, none⟩), .pointer (some ⟨kb, 0, none⟩)]] w fun e w' => e = .returned (.tuple #[.agg #[.int .u8 0, .int .i64 0], .bool false, .int .i64 0]) ∧ Keeps (fun i => i = mb) w w' ∧ Mtr w' mb f (l - k) (u + k) :=
  (catch_ret 29 _ w (fun i => i = mb) (fun W => Mtr W mb f (l - k) (u + k)) (fun _ _ => by kernel_rfl) (fun i hi => by have := Blk.lt hm; omega)
    (fun W0 hW => f29_ok pb kb mb f l u k W0 (hp.keeps hW id) (hk.keeps hW id) (Blk.keeps hm hW id) h1 h2 hl hu0 hu)).mono fun e w' ⟨he, hk, W1, hR, hb⟩ => ⟨he, hk, Blk.below hR hb (Blk.lt hm)⟩
theorem c29_no (pb kb mb : Nat) (f l u k : Int) (w : World) (hp : Blk w pb [.pointer (some ⟨mb, 0, none⟩)] 47) (hk : Blk w kb [.int .i64 k] 3) (hm : Mtr w mb f l u) (h1 : 1 ≤ k) (h2 : l < k) :
    Calls Try.prog 13 #[.func (.func 29) #[] #[.pointer (some ⟨pb, 0, none⟩), .pointer (some ⟨kb, 0, none⟩)]] w fun e w' => e = .returned (.tuple #[.agg #[.int .u8 1, .int .i64 k], .bool true, .int .i64 0]) ∧ Keeps Non w w' :=
  (catch_fault 29 _ w Non 1 k (fun _ => True) thereB_1 (fun _ _ => by kernel_rfl) (fun i hi => hi.elim)
    (fun W0 hW => f29_no pb kb mb f l u k W0 (hp.keeps hW id) (hk.keeps hW id) (Blk.keeps hm hW id) h1 h2)).mono fun e w' ⟨he, hk, _⟩ => ⟨he, hk⟩
end Go.Proofs.Ytfjofiofgjlgiaa
