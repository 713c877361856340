/-
  The walk over FaultTry: the closures. No condition.
-/
import Derived.Test.YtfjofiofgjlgiaaH
import Derived.Test.YtfjofiofgjlgiaaK
namespace Go.Proofs.Ytfjofiofgjlgiaa
open Go.RowKit

def cap19 (n : Nat) : Array Value := #[.pointer (some ⟨n + 2, 0, none⟩), .pointer (some ⟨n + 1, 0, none⟩), .pointer (some ⟨n, 0, none⟩)]
/-- The variables of FaultTry before the closure is made. -/
structure Tr0 (w : World) (n : Nat) (s : ByteArray) (m p k : Int) : Prop where
  s : Blk w n [.string s] 9
  m : Blk w (n + 1) [.int .i64 m] 3
  p : Blk w (n + 2) [.int .u8 p] 5
  k : Blk w (n + 3) [.int .u8 k] 5
  f : Blk w (n + 4) [.func (.func 19) #[] (cap19 n)] 35
theorem Tr0.keeps {w w' : World} {n s m p k} {S : Nat → Prop} (h : Tr0 w n s m p k) (hk : Keeps S w w') (hS : ∀ i, i ≤ n + 4 → ¬ S i) : Tr0 w' n s m p k :=
  ⟨h.s.keeps hk (hS _ (by omega)), h.m.keeps hk (hS _ (by omega)), h.p.keeps hk (hS _ (by omega)), h.k.keeps hk (hS _ (by omega)), h.f.keeps hk (hS _ (by omega))⟩
theorem Tr0.non {w w' : World} {n s m p k} (h : Tr0 w n s m p k) (hk : Keeps Non w w') : Tr0 w' n s m p k := h.keeps hk fun _ _ => id

theorem f19_fault (n : Nat) (s : ByteArray) (m p k : Int) (w : World) (h : Tr0 w n s m p k) (hp : thereB p = true) (hp0 : 0 < p) :
    Calls Try.prog 19 (cap19 n) w fun e w' => (∃ older, e = .panicked ({ v := .iface 23 (flt p m), recovered := false } :: older) ∧ NoExit older) ∧ Keeps Non w w' ∧ True := by
  have p0 : w.cell? ⟨n + 2, 0, none⟩ = some (.int .u8 p) := h.p.cell 0
  have m0 : w.cell? ⟨n + 1, 0, none⟩ = some (.int .i64 m) := h.m.cell 0
  clear h
  unfold cap19 flt
  go_enter Try.func19, Try.ntmps19
  go_wp2_with (go_at_call 17; refine (throw_good _ _ hp _).mono ?_; rintro e w' ⟨rfl, rfl⟩)
  exact ⟨rfl, ⟨[], rfl, rfl⟩, Keeps.refl _ w, trivial⟩
theorem f19_ret (n : Nat) (s : ByteArray) (m k : Int) (w : World) (h : Tr0 w n s m 0 k) :
    Calls Try.prog 19 (cap19 n) w fun e w' => e = .returned (.string s) ∧ Keeps Non w w' ∧ True := by
  have p0 : w.cell? ⟨n + 2, 0, none⟩ = some (.int .u8 0) := h.p.cell 0
  have s0 : w.cell? ⟨n, 0, none⟩ = some (.string s) := h.s.cell 0
  clear h
  unfold cap19
  go_enter Try.func19, Try.ntmps19
  go_wp2
  go_ret
  exact ⟨rfl, Keeps.refl _ w, trivial⟩
theorem t19_fault (n : Nat) (s : ByteArray) (m p k : Int) (w : World) (h : Tr0 w n s m p k) (hp : thereB p = true) (hp0 : 0 < p) :
    Calls Try.prog 20 #[.func (.func 19) #[] (cap19 n)] w fun e w' => e = .returned (.tuple #[.string ⟨#[]⟩, .agg #[.int .u8 p, .int .i64 m], .bool true, .int .i64 0]) ∧ Keeps Non w w' :=
  (tryS_fault 19 _ w Non (fun _ => True) p m hp (fun _ _ => by kernel_rfl) (fun _ x => x.elim) (fun W0 hW => f19_fault n s m p k W0 (h.non hW) hp hp0)).mono fun e w' ⟨he, hk, _⟩ => ⟨he, hk⟩
theorem t19_ret (n : Nat) (s : ByteArray) (m k : Int) (w : World) (h : Tr0 w n s m 0 k) :
    Calls Try.prog 20 #[.func (.func 19) #[] (cap19 n)] w fun e w' => e = .returned (.tuple #[.string s, .agg #[.int .u8 0, .int .i64 0], .bool false, .int .i64 0]) ∧ Keeps Non w w' :=
  (tryS_ret 19 _ w Non (fun _ => True) s (fun _ _ => by kernel_rfl) (fun _ x => x.elim) (fun W0 hW => f19_ret n s m k W0 (h.non hW))).mono fun e w' ⟨he, hk, _⟩ => ⟨he, hk⟩

/-! ### the closure that Or is handed -/
def bang (s : ByteArray) : ByteArray := s ++ ⟨#[33]⟩
theorem f23_any (n g : Nat) (s : ByteArray) (x y z0 z1 : Int) (w : World) (hs : Blk w n [.string s] 9) (hz : Blk w g [.int .u8 z0, .int .i64 z1] 23) (hng : n ≠ g) (hl : s.size ≤ 140737488351232) :
    Calls Try.prog 23 #[.agg #[.int .u8 x, .int .i64 y], .pointer (some ⟨g, 0, none⟩), .pointer (some ⟨n, 0, none⟩)] w fun e w' => e = .returned (.string (bang s)) ∧ Keeps (· = g) w w' ∧ Blk w' g [.int .u8 x, .int .i64 y] 23 := by
  have s0 : w.cell? ⟨n, 0, none⟩ = some (.string s) := hs.cell 0
  have z00 : w.cell? ⟨g, 0, none⟩ = some (.int .u8 z0) := hz.cell 0
  have z10 : w.cell? ⟨g, 1, none⟩ = some (.int .i64 z1) := hz.cell 1
  have f0 := hz.free 0 none
  have f1 := hz.free 1 none
  have lg := hz.lt
  have ls := hs.lt
  have HZ := hide hz
  clear hz hs
  unfold bang
  go_enter Try.func23, Try.ntmps23
  go_wp2
  go_ret
  exact ⟨rfl, (((Keeps.refl (· = g) w).set (.inl rfl) _).set (.inl rfl) _).alloc _, ((HZ.out.store 0 _).store 1 _).alloc _⟩

/-! ### the closure that Catch is handed -/
structure Tr1 (w : World) (g : Nat) (v : ByteArray) (z0 z1 : Int) : Prop where
  got : Blk w g [.string v] 9
  seen : Blk w (g + 1) [.int .u8 z0, .int .i64 z1] 23
  h : Blk w (g + 2) [.int .i64 0] 25
theorem Tr1.below {w w' : World} {g v z0 z1 B} (h : Tr1 w g v z0 z1) (hb : Below B w w') (hn : g + 2 < B) : Tr1 w' g v z0 z1 :=
  ⟨h.got.below hb (by omega), h.seen.below hb (by omega), h.h.below hb (by omega)⟩
theorem Tr1.non {w w' : World} {g v z0 z1} (h : Tr1 w g v z0 z1) (hk : Keeps Non w w') : Tr1 w' g v z0 z1 :=
  ⟨h.got.keeps hk id, h.seen.keeps hk id, h.h.keeps hk id⟩
def cap21 (n g : Nat) : Array Value := #[.pointer (some ⟨n + 4, 0, none⟩), .pointer (some ⟨n + 3, 0, none⟩), .pointer (some ⟨g + 1, 0, none⟩), .pointer (some ⟨n, 0, none⟩), .pointer (some ⟨g, 0, none⟩), .pointer (some ⟨g + 2, 0, none⟩)]
def S21 (g : Nat) : Nat → Prop := fun i => i = g ∨ i = g + 1 ∨ i = g + 2

theorem or_ret (n g : Nat) (s : ByteArray) (m k : Int) (w : World) (h : Tr0 w n s m 0 k) (hk : thereB k = true) :
    Calls Try.prog 22 #[.func (.func 19) #[] (cap19 n), .int .u8 k, .func (.func 23) #[] #[.pointer (some ⟨g + 1, 0, none⟩), .pointer (some ⟨n, 0, none⟩)]] w fun e w' =>
      e = .returned (.tuple #[.string s, .int .i64 0]) ∧ Keeps Non w w' :=
  (orS_ret 19 23 _ _ k w Non (fun _ => True) s hk (fun _ _ => by kernel_rfl) (fun _ x => x.elim) (fun W0 hW => f19_ret n s m k W0 (h.non hW))).mono fun e w' ⟨he, hk, _⟩ => ⟨he, hk⟩
theorem or_other (n g : Nat) (s : ByteArray) (m p k : Int) (w : World) (h : Tr0 w n s m p k) (hk : thereB k = true) (hp : thereB p = true) (hp0 : 0 < p) (hne : (p != k) = true) :
    Calls Try.prog 22 #[.func (.func 19) #[] (cap19 n), .int .u8 k, .func (.func 23) #[] #[.pointer (some ⟨g + 1, 0, none⟩), .pointer (some ⟨n, 0, none⟩)]] w fun e w' =>
      e = .panicked [{ v := .iface 23 (flt p m), recovered := false }] ∧ Keeps Non w w' :=
  (orS_other 19 23 _ _ k p m w Non (fun _ => True) hk hp hne (fun _ _ => by kernel_rfl) (fun _ x => x.elim) (fun W0 hW => f19_fault n s m p k W0 (h.non hW) hp hp0)).mono fun e w' ⟨he, hk, _⟩ => ⟨he, hk⟩
theorem or_same (n g : Nat) (s : ByteArray) (m p : Int) (w : World) (h : Tr0 w n s m p p) (h1 : Tr1 w g ⟨#[]⟩ 0 0) (hng : n ≠ g + 1) (hp : thereB p = true) (hp0 : 0 < p) (hl : s.size ≤ 140737488351232) :
    Calls Try.prog 22 #[.func (.func 19) #[] (cap19 n), .int .u8 p, .func (.func 23) #[] #[.pointer (some ⟨g + 1, 0, none⟩), .pointer (some ⟨n, 0, none⟩)]] w fun e w' =>
      e = .returned (.tuple #[.string (bang s), .int .i64 0]) ∧ Keeps (· = g + 1) w w' ∧ Blk w' (g + 1) [.int .u8 p, .int .i64 m] 23 :=
  (orS_same 19 23 _ _ p m w Non (· = g + 1) (fun _ => True) (fun W => Blk W (g + 1) [.int .u8 p, .int .i64 m] 23) (bang s) hp (fun _ _ => by kernel_rfl) (fun _ _ => by kernel_rfl) (fun _ x => x.elim)
    (fun W0 hW => f19_fault n s m p p W0 (h.non hW) hp hp0)
    (fun W0 W1 hk _ _ => by
      have := f23_any n (g + 1) s p m 0 0 W0 (h.s.keeps hk id) (h1.seen.keeps hk id) hng hl
      simpa [flt] using this)).mono
    fun e w' ⟨he, hk, hb⟩ => ⟨he, hk.weak (fun i _ hi => hi.elim (fun x => x.elim) id), hb⟩
theorem f21_ret (n g : Nat) (s : ByteArray) (m k : Int) (w : World) (h : Tr0 w n s m 0 k) (h1 : Tr1 w g ⟨#[]⟩ 0 0) (hk : thereB k = true) :
    Calls Try.prog 21 (cap21 n g) w fun e w' => (∃ v, e = .returned v) ∧ Keeps (S21 g) w w' ∧ Tr1 w' g s 0 0 := by
  have hmf : ∀ (fn : Fn) (first cap : Array Value) (w : World), (Instr.makeFunc fn first cap).run Try.prog w = .ok (.func fn first cap) w := fun _ _ _ _ => rfl
  have HC := hide (or_ret n g s m k w h hk)
  have H := hide h
  have H1 := hide h1
  have f0 : w.cell? ⟨n + 4, 0, none⟩ = some (.func (.func 19) #[] (cap19 n)) := h.f.cell 0
  have k0 : w.cell? ⟨n + 3, 0, none⟩ = some (.int .u8 k) := h.k.cell 0
  clear h h1
  unfold cap21 
  go_enter Try.func21, Try.ntmps21
  go_wp2_with fail
  refine HC.out.mono ?_
  rintro e w2 ⟨rfl, hk⟩
  have bg := H1.out.got.keeps hk id
  have bh := H1.out.h.keeps hk id
  have bs := H1.out.seen.keeps hk id
  have g0 : w2.cell? ⟨g, 0, none⟩ = some (.string ⟨#[]⟩) := bg.cell 0
  have h0 : w2.cell? ⟨g + 2, 0, none⟩ = some (.int .i64 0) := bh.cell 0
  have fg := bg.free 0 none
  have fh := bh.free 0 none
  have lg := bg.lt
  have lh := bh.lt
  have HB := hide (And.intro bg (And.intro bh bs))
  clear bg bh bs
  have HK := hide hk
  clear hk
  go_wp2
  obtain ⟨bg, bh, bs⟩ := HB.out
  go_end0
  refine ⟨⟨_, rfl⟩, ?_, ?_⟩
  · exact (((HK.out.weak (T := S21 g) (fun _ _ x => x.elim)).set (.inl (.inl rfl)) _).set (.inl (.inr (.inr rfl))) _)
  · exact ⟨(bg.store 0 _).other (by simp) _, (bs.other (by simp) _).other (by simp) _, (bh.other (by simp) _).store 0 _⟩
theorem f21_other (n g : Nat) (s : ByteArray) (m p k : Int) (w : World) (h : Tr0 w n s m p k) (h1 : Tr1 w g ⟨#[]⟩ 0 0) (hk : thereB k = true) (hp : thereB p = true) (hp0 : 0 < p) (hne : (p != k) = true) :
    Calls Try.prog 21 (cap21 n g) w fun e w' => (∃ older, e = .panicked ({ v := .iface 23 (flt p m), recovered := false } :: older) ∧ NoExit older) ∧ Keeps (S21 g) w w' ∧ Tr1 w' g ⟨#[]⟩ 0 0 := by
  have hmf : ∀ (fn : Fn) (first cap : Array Value) (w : World), (Instr.makeFunc fn first cap).run Try.prog w = .ok (.func fn first cap) w := fun _ _ _ _ => rfl
  have HC := hide (or_other n g s m p k w h hk hp hp0 hne)
  have H := hide h
  have H1 := hide h1
  have f0 : w.cell? ⟨n + 4, 0, none⟩ = some (.func (.func 19) #[] (cap19 n)) := h.f.cell 0
  have k0 : w.cell? ⟨n + 3, 0, none⟩ = some (.int .u8 k) := h.k.cell 0
  clear h h1
  unfold cap21 
  go_enter Try.func21, Try.ntmps21
  go_wp2_with fail
  refine HC.out.mono ?_
  rintro e w2 ⟨rfl, hk⟩
  go_wp2
  exact ⟨rfl, ⟨[], rfl, rfl⟩, hk.weak (fun _ _ x => x.elim), H1.out.non hk⟩
theorem f21_same (n g : Nat) (s : ByteArray) (m p : Int) (w : World) (h : Tr0 w n s m p p) (h1 : Tr1 w g ⟨#[]⟩ 0 0) (hng : n ≠ g + 1) (hp : thereB p = true) (hp0 : 0 < p) (hl : s.size ≤ 140737488351232) :
    Calls Try.prog 21 (cap21 n g) w fun e w' => (∃ v, e = .returned v) ∧ Keeps (S21 g) w w' ∧ Tr1 w' g (bang s) p m := by
  have hmf : ∀ (fn : Fn) (first cap : Array Value) (w : World), (Instr.makeFunc fn first cap).run Try.prog w = .ok (.func fn first cap) w := fun _ _ _ _ => rfl
  have HC := hide (or_same n g s m p w h h1 hng hp hp0 hl)
  have H := hide h
  have H1 := hide h1
  have f0 : w.cell? ⟨n + 4, 0, none⟩ = some (.func (.func 19) #[] (cap19 n)) := h.f.cell 0
  have k0 : w.cell? ⟨n + 3, 0, none⟩ = some (.int .u8 p) := h.k.cell 0
  clear h h1
  unfold cap21 
  go_enter Try.func21, Try.ntmps21
  go_wp2_with fail
  refine HC.out.mono ?_
  rintro e w2 ⟨rfl, hk, hz⟩
  have bg := H1.out.got.keeps hk (by simp)
  have bh := H1.out.h.keeps hk (by simp)
  have bs := hz
  have g0 : w2.cell? ⟨g, 0, none⟩ = some (.string ⟨#[]⟩) := bg.cell 0
  have h0 : w2.cell? ⟨g + 2, 0, none⟩ = some (.int .i64 0) := bh.cell 0
  have fg := bg.free 0 none
  have fh := bh.free 0 none
  have lg := bg.lt
  have lh := bh.lt
  have HB := hide (And.intro bg (And.intro bh bs))
  clear bg bh bs
  have HK := hide hk
  clear hk
  go_wp2
  obtain ⟨bg, bh, bs⟩ := HB.out
  go_end0
  refine ⟨⟨_, rfl⟩, ?_, ?_⟩
  · exact (((HK.out.weak (T := S21 g) (fun _ _ x => .inr (.inl x))).set (.inl (.inl rfl)) _).set (.inl (.inr (.inr rfl))) _)
  · exact ⟨(bg.store 0 _).other (by simp) _, (bs.other (by simp) _).other (by simp) _, (bh.other (by simp) _).store 0 _⟩

/-! ### Catch of it -/
theorem S21_lt {w : World} {g v z0 z1} (h : Tr1 w g v z0 z1) : ∀ k, S21 g k → k < w.heap.size := by
  intro k hk
  have := h.h.lt
  unfold S21 at hk
  omega
theorem c21_ret (n g : Nat) (s : ByteArray) (m k : Int) (w : World) (h : Tr0 w n s m 0 k) (h1 : Tr1 w g ⟨#[]⟩ 0 0) (hk : thereB k = true) :
    Calls Try.prog 13 #[.func (.func 21) #[] (cap21 n g)] w fun e w' => e = .returned (.tuple #[.agg #[.int .u8 0, .int .i64 0], .bool false, .int .i64 0]) ∧ Keeps (S21 g) w w' ∧ Tr1 w' g s 0 0 :=
  (catch_ret 21 _ w (S21 g) (fun W => Tr1 W g s 0 0) (fun _ _ => by kernel_rfl) (S21_lt h1) (fun W0 hW => f21_ret n g s m k W0 (h.non hW) (h1.non hW) hk)).mono
    fun e w' ⟨he, hk, W1, hR, hb⟩ => ⟨he, hk, hR.below hb h1.h.lt⟩
theorem c21_other (n g : Nat) (s : ByteArray) (m p k : Int) (w : World) (h : Tr0 w n s m p k) (h1 : Tr1 w g ⟨#[]⟩ 0 0) (hk : thereB k = true) (hp : thereB p = true) (hp0 : 0 < p) (hne : (p != k) = true) :
    Calls Try.prog 13 #[.func (.func 21) #[] (cap21 n g)] w fun e w' => e = .returned (.tuple #[.agg #[.int .u8 p, .int .i64 m], .bool true, .int .i64 0]) ∧ Keeps (S21 g) w w' ∧ Tr1 w' g ⟨#[]⟩ 0 0 :=
  (catch_fault 21 _ w (S21 g) p m (fun W => Tr1 W g ⟨#[]⟩ 0 0) hp (fun _ _ => by kernel_rfl) (S21_lt h1) (fun W0 hW => f21_other n g s m p k W0 (h.non hW) (h1.non hW) hk hp hp0 hne)).mono
    fun e w' ⟨he, hk, W1, hR, hb⟩ => ⟨he, hk, hR.below hb h1.h.lt⟩
theorem c21_same (n g : Nat) (s : ByteArray) (m p : Int) (w : World) (h : Tr0 w n s m p p) (h1 : Tr1 w g ⟨#[]⟩ 0 0) (hng : n ≠ g + 1) (hp : thereB p = true) (hp0 : 0 < p) (hl : s.size ≤ 140737488351232) :
    Calls Try.prog 13 #[.func (.func 21) #[] (cap21 n g)] w fun e w' => e = .returned (.tuple #[.agg #[.int .u8 0, .int .i64 0], .bool false, .int .i64 0]) ∧ Keeps (S21 g) w w' ∧ Tr1 w' g (bang s) p m :=
  (catch_ret 21 _ w (S21 g) (fun W => Tr1 W g (bang s) p m) (fun _ _ => by kernel_rfl) (S21_lt h1) (fun W0 hW => f21_same n g s m p W0 (h.non hW) (h1.non hW) hng hp hp0 hl)).mono
    fun e w' ⟨he, hk, W1, hR, hb⟩ => ⟨he, hk, hR.below hb h1.h.lt⟩
end Go.Proofs.Ytfjofiofgjlgiaa
