/-
  Layer 35's runs of steps: what comes of them; the walk over 'do'. No condition.
-/
import Derived.Test.YtfjofiofgjlgiaaG
import Derived.Test.YtfjofiofgjlgiaaRow
import Derived.Test.YtfjofiofgjlgiaaOnto
import Derived.LoopTactic
import Derived.Test.YtfjofiofgjlgiaaShelf
namespace Go.Proofs.Ytfjofiofgjlgiaa
open Go.RowKit
attribute [local go_sem] onto_cell onto_frozen
/-- A step: its kind, its number, its most. -/
abbrev Step3 := Int × Int × Int
/-- At least 0, at most 3000. -/
def cl (n : Int) : Int := if n < 0 then 0 else if 3000 < n then 3000 else n
theorem cl_bd (n : Int) : 0 ≤ cl n ∧ cl n ≤ 3000 := by unfold cl; split <;> (try split) <;> omega
/-- One step: what is left, what was used, what was thrown (0 nothing, 1 and 2 faults, 8 an error of the runtime, 9 a kind that there is not), how much. -/
def oneS (f l u : Int) (x : Step3) : Int × Int × Int × Int :=
  if x.1 % 6 = 1 then (if l < x.2.1 then (l, u, 1, x.2.1) else if 0 < x.2.1 then (l - x.2.1, u + x.2.1, 0, 0) else (l, u, 0, 0))
  else if x.1 % 6 = 2 then (f, u, 0, 0)
  else if x.1 % 6 = 3 then (if 0 ≤ x.2.2 ∧ x.2.2 < cl x.2.1 then (l, u, 2, cl x.2.1) else (l, u, 0, 0))
  else if x.1 % 6 = 4 then (if x.2.1 % 256 = 1 ∨ x.2.1 % 256 = 2 then (l, u, x.2.1 % 256, x.2.2) else (l, u, 9, 0))
  else if x.1 % 6 = 5 then (l, u, 8, 0)
  else (l, u, 0, 0)
/-- A run: what is left, what was used, how many steps were done, what was thrown, how much. -/
def runS (f : Int) : List Step3 → Int → Int → Int → Int × Int × Int × Int × Int
  | [], l, u, d => (l, u, d, 0, 0)
  | x :: r, l, u, d => if (oneS f l u x).2.2.1 = 0 then runS f r (oneS f l u x).1 (oneS f l u x).2.1 (d + 1) else ((oneS f l u x).1, (oneS f l u x).2.1, d, (oneS f l u x).2.2.1, (oneS f l u x).2.2.2)
/-- The slice at a, of n steps, reads xs. -/
structure Stp (w : World) (a : Option Addr) (n : Nat) (xs : List Step3) : Prop where
  len : xs.length = n
  cell : n = 0 ∨ ∃ b off, a = some ⟨b, off, none⟩ ∧ b < w.heap.size ∧ ∀ i, i < n → w.cell? ⟨b, off + i * 3, none⟩ = some (.int .u8 (xs.getD i (0, 0, 0)).1) ∧ w.cell? ⟨b, off + i * 3 + 1, none⟩ = some (.int .i64 (xs.getD i (0, 0, 0)).2.1) ∧ w.cell? ⟨b, off + i * 3 + 2, none⟩ = some (.int .i64 (xs.getD i (0, 0, 0)).2.2)
  bd : ∀ i, 0 ≤ (xs.getD i (0, 0, 0)).1 ∧ (xs.getD i (0, 0, 0)).1 ≤ 255 ∧ (xs.getD i (0, 0, 0)).2.1 ≤ 9223372036854775807
theorem Stp.keeps {S : Nat → Prop} {w w' : World} {a : Option Addr} {n : Nat} {xs : List Step3} (h : Stp w a n xs) (k : Keeps S w w') (hs : ∀ b o, a = some ⟨b, o, none⟩ → ¬ S b) : Stp w' a n xs :=
  ⟨h.len, h.cell.imp id fun ⟨b, off, ha, hb, hc⟩ => ⟨b, off, ha, Nat.lt_of_lt_of_le hb k.size, fun i hi =>
    ⟨(k.cell (p := ⟨b, off + i * 3, none⟩) hb (hs b off ha)).trans (hc i hi).1, (k.cell (p := ⟨b, off + i * 3 + 1, none⟩) hb (hs b off ha)).trans (hc i hi).2.1, (k.cell (p := ⟨b, off + i * 3 + 2, none⟩) hb (hs b off ha)).trans (hc i hi).2.2⟩⟩, h.bd⟩
theorem Stp.non {w w' : World} {a : Option Addr} {n : Nat} {xs : List Step3} (h : Stp w a n xs) (k : Keeps Non w w') : Stp w' a n xs := h.keeps k (fun _ _ _ x => x)
/-- How a run ends. -/
def EndS (k m : Int) (e : Ending) : Prop :=
  (k = 0 ∧ e = .returned (.tuple #[])) ∨ ((k = 1 ∨ k = 2) ∧ e = .panicked [{ v := .iface 23 (flt k m), recovered := false }]) ∨ (k = 8 ∧ ∃ v, e = .panicked [{ v := .iface 8 v, recovered := false }]) ∨ (k = 9 ∧ e = .panicked [{ v := .iface 25 (.int .i64 350), recovered := false }])
theorem run_step {f l u l1 u1 l2 u2 : Int} {xs : List Step3} {k n : Nat} {d : Int} (hl : xs.length = n) (hk : k < n) (h : runS f xs l u 0 = runS f (xs.drop k) l1 u1 d) (ho : oneS f l1 u1 (xs.getD k (0, 0, 0)) = (l2, u2, 0, 0)) :
    runS f xs l u 0 = runS f (xs.drop (k + 1)) l2 u2 (d + 1) := by
  rw [h, List.drop_eq_getElem_cons (by omega)]
  have e : xs.getD k (0, 0, 0) = xs[k] := by rw [List.getD_eq_getElem?_getD, List.getElem?_eq_getElem (by omega)]; rfl
  rw [e] at ho
  rw [runS, ho]
  simp
theorem run_stop {f l u l1 u1 l2 u2 c m : Int} {xs : List Step3} {k n : Nat} {d : Int} (hl : xs.length = n) (hk : k < n) (h : runS f xs l u 0 = runS f (xs.drop k) l1 u1 d) (ho : oneS f l1 u1 (xs.getD k (0, 0, 0)) = (l2, u2, c, m)) (hc : c ≠ 0) :
    runS f xs l u 0 = (l2, u2, d, c, m) := by
  rw [h, List.drop_eq_getElem_cons (by omega)]
  have e : xs.getD k (0, 0, 0) = xs[k] := by rw [List.getD_eq_getElem?_getD, List.getElem?_eq_getElem (by omega)]; rfl
  rw [e] at ho
  rw [runS, ho]
  simp [hc]
theorem run_end {f l u l1 u1 : Int} {xs : List Step3} {n : Nat} {d : Int} (hl : xs.length = n) (h : runS f xs l u 0 = runS f (xs.drop n) l1 u1 d) : runS f xs l u 0 = (l1, u1, d, 0, 0) := by
  rw [h, List.drop_of_length_le (by omega), runS]
/-- What a walk over a run leaves. -/
def DoPost (mb db : Nat) (f l u : Int) (xs : List Step3) (w : World) (e : Ending) (w' : World) : Prop :=
  EndS (runS f xs l u 0).2.2.2.1 (runS f xs l u 0).2.2.2.2 e ∧ Mtr w' mb f (runS f xs l u 0).1 (runS f xs l u 0).2.1 ∧ Blk w' db [.int .i64 (runS f xs l u 0).2.2.1] 3 ∧ Keeps (fun i => i = mb ∨ i = db) w w'
theorem doPost_of {mb db : Nat} {f l u a b d c m : Int} {xs : List Step3} {w w' : World} {e : Ending} (h : runS f xs l u 0 = (a, b, d, c, m)) (he : EndS c m e) (hm : Mtr w' mb f a b) (hd : Blk w' db [.int .i64 d] 3) (hk : Keeps (fun i => i = mb ∨ i = db) w w') : DoPost mb db f l u xs w e w' := by
  unfold DoPost
  rw [h]
  exact ⟨he, hm, hd, hk⟩
theorem Mtr.other {w : World} {b : Nat} {f l u : Int} (h : Mtr w b f l u) {c i : Nat} (hn : b ≠ c) (v : Value) : Mtr (w.setCell ⟨c, i, none⟩ v) b f l u := Blk.other h hn v
theorem bumped {w : World} {b k : Nat} (h : Blk w b [.int .i64 k] 3) : Blk (w.setCell ⟨b, 0, none⟩ (.int .i64 ((k : Int) + 1))) b [.int .i64 ((k + 1 : Nat) : Int)] 3 := by
  have := h.store 0 (.int .i64 ((k : Int) + 1))
  simpa using this
theorem rep_size (c : Nat) : (⟨(Lib.repeatL [120] c).toArray⟩ : ByteArray).size = c := by
  show (Lib.repeatL [120] c).toArray.size = c
  rw [List.size_toArray]
  induction c with
  | zero => rfl
  | succ c ih => simp [Lib.repeatL] at *; omega
theorem rep_at (K : Int) (c : Nat) (w : World) (hK : K = (c : Int)) (hc : c ≤ 3000) : Calls Try.prog 61 #[.string ⟨#[120]⟩, .int .i64 K] w fun e w' => (∃ s : ByteArray, s.size = c ∧ e = .returned (.string s)) ∧ Keeps Non w w' := by
  subst hK
  refine (Try.strings_Repeat ⟨#[120]⟩ c w (by omega) (by show 1 * c ≤ _; omega)).mono ?_
  rintro e w' ⟨rfl, hb⟩
  exact ⟨⟨_, rep_size c, rfl⟩, Keeps.of_below Non hb⟩
set_option maxHeartbeats 8000000 in
set_option maxRecDepth 100000 in
theorem do_any (mb db : Nat) (a : Option Addr) (n cap : Nat) (xs : List Step3) (f l u : Int) (w : World) (hm : Mtr w mb f l u) (hd : Blk w db [.int .i64 0] 3) (hS : Stp w a n xs) (hn : n ≤ 12) (hne : mb ≠ db)
    (hsa : 0 < n → ∀ b o, a = some ⟨b, o, none⟩ → b ≠ mb ∧ b ≠ db) (hl0 : 0 ≤ l) (hlf : l ≤ f) (hf : f ≤ 1048576) (hu0 : 0 ≤ u) (hu1 : u ≤ 1000000000000) :
    Calls Try.prog 57 #[.pointer (some ⟨mb, 0, none⟩), .slice a n cap, .pointer (some ⟨db, 0, none⟩)] w (DoPost mb db f l u xs w) := by
  have HS := hide hS
  have hlen := hide hS.len
  have HM0 := hide hm
  have HD0 := hide hd
  have HSA := hide hsa
  have hne2 := hide hne
  clear hS hm hd hsa hne
  go_enter Try.func57, Try.ntmps57
  go_wp2_with fail
  go_loopw [11] (fun i wr => ∃ (k : Nat) (l1 u1 : Int), k ≤ n ∧ i = .int .i64 k ∧ 0 ≤ l1 ∧ l1 ≤ f ∧ 0 ≤ u1 ∧ u1 ≤ 1000000000000 + 1048576 * k ∧ Hid (Mtr wr mb f l1 u1) ∧ Hid (Blk wr db [.int .i64 k] 3) ∧ Hid (Keeps (fun i => i = mb ∨ i = db) w wr) ∧ Hid (runS f xs l u 0 = runS f (xs.drop k) l1 u1 k)) (fun i _ => n - (intOf i).toNat)
  case atStart => exact ⟨0, l, u, by omega, rfl, hl0, hlf, hu0, by omega, HM0.out, HD0.out, Keeps.refl _ _, by rw [List.drop_zero]; rfl⟩
  case round =>
    obtain ⟨k, l1, u1, hk, rfl, hl0, hlf, hu0, hu1, hM, hD, hK, hR⟩ := hrel
    by_cases hlt : k < n
    · obtain ⟨b, off, rfl, hb, hcl⟩ := HS.out.cell.resolve_left (by omega)
      obtain ⟨hsb1, hsb2⟩ := HSA.out (by omega) b off rfl
      obtain ⟨c0, c1, c2⟩ := hcl k hlt
      have hb2 := Nat.lt_of_lt_of_le hb hK.out.size
      have c0 := (hK.out.cell (p := ⟨_, _, none⟩) hb (by show ¬ (b = mb ∨ b = db); omega)).trans c0
      have c1 := (hK.out.cell (p := ⟨_, _, none⟩) hb (by show ¬ (b = mb ∨ b = db); omega)).trans c1
      have c2 := (hK.out.cell (p := ⟨_, _, none⟩) hb (by show ¬ (b = mb ∨ b = db); omega)).trans c2
      obtain ⟨bd1, bd2, bd3⟩ := HS.out.bd k
      have hO := hide (fun l2 u2 (h : oneS f l1 u1 (xs.getD k (0, 0, 0)) = (l2, u2, 0, 0)) => run_step hlen.out hlt hR.out h)
      have hP := hide (fun l2 u2 c m (h : oneS f l1 u1 (xs.getD k (0, 0, 0)) = (l2, u2, c, m)) (hc : c ≠ 0) => run_stop hlen.out hlt hR.out h hc)
      clear hcl
      generalize xs.getD k (0, 0, 0) = x at *
      obtain ⟨kd, nn, ms⟩ := x
      simp only at c0 c1 c2 bd1 bd2 bd3
      have y0 : (0 : Int) ≤ (k : Int) := by omega
      have y1 : (k : Int) < (n : Int) := by omega
      have hKa := hide (hK.out.alloc (.cells #[.int .u8 kd, .int .i64 nn, .int .i64 ms] 62))
      have hMa := hide (Blk.alloc hM.out (.cells #[.int .u8 kd, .int .i64 nn, .int .i64 ms] 62))
      have hDa := hide (hD.out.alloc (.cells #[.int .u8 kd, .int .i64 nn, .int .i64 ms] 62))
      have d0 := (hDa.out).cell 0
      have df := (hDa.out).free 0 none
      have ddb := Blk.lt hD.out
      simp only [List.getElem?_cons_zero] at d0
      have h6 : kd % 6 = 0 ∨ kd % 6 = 1 ∨ kd % 6 = 2 ∨ kd % 6 = 3 ∨ kd % 6 = 4 ∨ kd % 6 = 5 := by omega
      rcases h6 with h6 | h6 | h6 | h6 | h6 | h6
      · have h6b : kd % 6 = 0 := h6
        have HQ : Hid (oneS f l1 u1 (kd, nn, ms) = (l1, u1, 0, 0)) := by simp [Hid, oneS, h6b]
        go_wp2
        go_roundw
        case rel => exact ⟨k + 1, l1, u1, by omega, by go_num, by omega, by omega, by omega, by omega, Blk.alloc (Mtr.other hM.out hne2.out _) _, (bumped hD.out).alloc _, (hK.out.set (.inl (.inr rfl)) _).alloc _, hO.out _ _ HQ.out⟩
        case measure => simp [intOf]; omega
      · have h6b : kd % 6 = 1 := h6
        by_cases g1 : l1 < nn
        · have HQ : Hid (oneS f l1 u1 (kd, nn, ms) = (l1, u1, 1, nn)) := by simp [Hid, oneS, h6b, g1]
          go_wp2_with fail
          refine (use_no mb f l1 u1 nn _ hMa.out (by omega) g1).mono ?_
          rintro e w2 ⟨rfl, rfl⟩
          go_wp2
          exact ⟨rfl, doPost_of (hP.out _ _ _ _ HQ.out (by omega)) (.inr (.inl ⟨.inl rfl, rfl⟩)) hMa.out hDa.out hKa.out⟩
        · by_cases g2 : 0 < nn
          · have HQ : Hid (oneS f l1 u1 (kd, nn, ms) = (l1 - nn, u1 + nn, 0, 0)) := by simp [Hid, oneS, h6b, g1, g2]
            go_wp2_with fail
            refine (use_ok mb f l1 u1 nn _ hMa.out (by omega) (by omega) (by omega) hu0 (by omega)).mono ?_
            rintro e w2 ⟨rfl, hm2, hk2⟩
            have hMb := hide hm2
            have hDb := hide (hDa.out.keeps hk2 (fun e => hne2.out e.symm))
            have hKb := hide (hKa.out.trans hk2 (fun i _ e => .inl e))
            have d0 := (hDb.out).cell 0
            have df := (hDb.out).free 0 none
            have ddb := Blk.lt hDb.out
            simp only [List.getElem?_cons_zero] at d0
            clear hm2 hk2
            go_wp2
            go_roundw
            case rel => exact ⟨k + 1, (l1 - nn), (u1 + nn), by omega, by go_num, by omega, by omega, by omega, by omega, Mtr.other hMb.out hne2.out _, bumped hDb.out, hKb.out.set (.inl (.inr rfl)) _, hO.out _ _ HQ.out⟩
            case measure => simp [intOf]; omega
          · have HQ : Hid (oneS f l1 u1 (kd, nn, ms) = (l1, u1, 0, 0)) := by simp [Hid, oneS, h6b, g1, g2]
            go_wp2_with fail
            refine (use_arg mb f l1 u1 nn _ hMa.out (by omega)).mono ?_
            rintro e w2 ⟨rfl, rfl⟩
            go_wp2
            go_roundw
            case rel => exact ⟨k + 1, l1, u1, by omega, by go_num, by omega, by omega, by omega, by omega, Blk.alloc (Mtr.other hM.out hne2.out _) _, (bumped hD.out).alloc _, (hK.out.set (.inl (.inr rfl)) _).alloc _, hO.out _ _ HQ.out⟩
            case measure => simp [intOf]; omega
      · have h6b : kd % 6 = 2 := h6
        have HQ : Hid (oneS f l1 u1 (kd, nn, ms) = (f, u1, 0, 0)) := by simp [Hid, oneS, h6b]
        go_wp2_with fail
        refine (fill_any mb f l1 u1 _ hMa.out).mono ?_
        rintro e w2 ⟨rfl, hm2, hk2⟩
        have hMb := hide hm2
        have hDb := hide (hDa.out.keeps hk2 (fun e => hne2.out e.symm))
        have hKb := hide (hKa.out.trans hk2 (fun i _ e => .inl e))
        have d0 := (hDb.out).cell 0
        have df := (hDb.out).free 0 none
        have ddb := Blk.lt hDb.out
        simp only [List.getElem?_cons_zero] at d0
        clear hm2 hk2
        go_wp2
        go_roundw
        case rel => exact ⟨k + 1, f, u1, by omega, by go_num, by omega, by omega, by omega, by omega, Mtr.other hMb.out hne2.out _, bumped hDb.out, hKb.out.set (.inl (.inr rfl)) _, hO.out _ _ HQ.out⟩
        case measure => simp [intOf]; omega
      · have h6b : kd % 6 = 3 := h6
        by_cases n0 : nn < 0
        · have hcl : cl nn = (0 : Int) := by unfold cl; (repeat' split) <;> omega
          go_wp2_with fail
          refine (rep_at _ ((0 : Int)).toNat _ (by omega) (by omega)).mono ?_
          rintro e w2 ⟨⟨s, hs, rfl⟩, hk2⟩
          have hKb := hide (hKa.out.thenNon hk2)
          have hMb := hide (Blk.keeps hMa.out hk2 id)
          have hDb := hide (hDa.out.keeps hk2 id)
          have hXb := hide ((Blk.new wr [.int .u8 kd, .int .i64 nn, .int .i64 ms] 62).keeps hk2 id)
          have x2 := hXb.out.cell 2
          have d0 := (hDb.out).cell 0
          have df := (hDb.out).free 0 none
          have ddb := Blk.lt hDb.out
          have dxb := Blk.lt hXb.out
          simp only [List.getElem?_cons_zero, List.getElem?_cons_succ] at d0 x2
          have hss := hide hs
          clear hk2 hs
          go_wp2_with fail
          by_cases g : 0 ≤ ms ∧ ms < (0 : Int)
          · have HQ : Hid (oneS f l1 u1 (kd, nn, ms) = (l1, u1, 2, (0 : Int))) := by simp [Hid, oneS, h6b, hcl, g]
            refine (fits_no s ms _ g.1 (by have := hss.out; omega) (by have := hss.out; omega)).mono ?_
            rintro e w3 ⟨rfl, rfl⟩
            go_wp2
            exact ⟨rfl, doPost_of (hP.out _ _ _ _ HQ.out (by omega)) (.inr (.inl ⟨.inr rfl, by rw [show ((s.size : Nat) : Int) = (0 : Int) by have := hss.out; omega]⟩)) hMb.out hDb.out hKb.out⟩
          · have HQ : Hid (oneS f l1 u1 (kd, nn, ms) = (l1, u1, 0, 0)) := by simp [Hid, oneS, h6b, hcl, g]
            refine (fits_yes s ms _ (by have := hss.out; omega) (by have := hss.out; omega)).mono ?_
            rintro e w3 ⟨rfl, rfl⟩
            clear g
            go_wp2
            go_roundw
            case rel => exact ⟨k + 1, l1, u1, by omega, by go_num, by omega, by omega, by omega, by omega, Mtr.other hMb.out hne2.out _, bumped hDb.out, hKb.out.set (.inl (.inr rfl)) _, hO.out _ _ HQ.out⟩
            case measure => simp [intOf]; omega
        · by_cases n1 : 3000 < nn
          · have hcl : cl nn = (3000 : Int) := by unfold cl; (repeat' split) <;> omega
            go_wp2_with fail
            refine (rep_at _ ((3000 : Int)).toNat _ (by omega) (by omega)).mono ?_
            rintro e w2 ⟨⟨s, hs, rfl⟩, hk2⟩
            have hKb := hide (hKa.out.thenNon hk2)
            have hMb := hide (Blk.keeps hMa.out hk2 id)
            have hDb := hide (hDa.out.keeps hk2 id)
            have hXb := hide ((Blk.new wr [.int .u8 kd, .int .i64 nn, .int .i64 ms] 62).keeps hk2 id)
            have x2 := hXb.out.cell 2
            have d0 := (hDb.out).cell 0
            have df := (hDb.out).free 0 none
            have ddb := Blk.lt hDb.out
            have dxb := Blk.lt hXb.out
            simp only [List.getElem?_cons_zero, List.getElem?_cons_succ] at d0 x2
            have hss := hide hs
            clear hk2 hs
            go_wp2_with fail
            by_cases g : 0 ≤ ms ∧ ms < (3000 : Int)
            · have HQ : Hid (oneS f l1 u1 (kd, nn, ms) = (l1, u1, 2, (3000 : Int))) := by simp [Hid, oneS, h6b, hcl, g]
              refine (fits_no s ms _ g.1 (by have := hss.out; omega) (by have := hss.out; omega)).mono ?_
              rintro e w3 ⟨rfl, rfl⟩
              go_wp2
              exact ⟨rfl, doPost_of (hP.out _ _ _ _ HQ.out (by omega)) (.inr (.inl ⟨.inr rfl, by rw [show ((s.size : Nat) : Int) = (3000 : Int) by have := hss.out; omega]⟩)) hMb.out hDb.out hKb.out⟩
            · have HQ : Hid (oneS f l1 u1 (kd, nn, ms) = (l1, u1, 0, 0)) := by simp [Hid, oneS, h6b, hcl, g]
              refine (fits_yes s ms _ (by have := hss.out; omega) (by have := hss.out; omega)).mono ?_
              rintro e w3 ⟨rfl, rfl⟩
              clear g
              go_wp2
              go_roundw
              case rel => exact ⟨k + 1, l1, u1, by omega, by go_num, by omega, by omega, by omega, by omega, Mtr.other hMb.out hne2.out _, bumped hDb.out, hKb.out.set (.inl (.inr rfl)) _, hO.out _ _ HQ.out⟩
              case measure => simp [intOf]; omega
          · have hcl : cl nn = nn := by unfold cl; (repeat' split) <;> omega
            go_wp2_with fail
            refine (rep_at _ (nn).toNat _ (by omega) (by omega)).mono ?_
            rintro e w2 ⟨⟨s, hs, rfl⟩, hk2⟩
            have hKb := hide (hKa.out.thenNon hk2)
            have hMb := hide (Blk.keeps hMa.out hk2 id)
            have hDb := hide (hDa.out.keeps hk2 id)
            have hXb := hide ((Blk.new wr [.int .u8 kd, .int .i64 nn, .int .i64 ms] 62).keeps hk2 id)
            have x2 := hXb.out.cell 2
            have d0 := (hDb.out).cell 0
            have df := (hDb.out).free 0 none
            have ddb := Blk.lt hDb.out
            have dxb := Blk.lt hXb.out
            simp only [List.getElem?_cons_zero, List.getElem?_cons_succ] at d0 x2
            have hss := hide hs
            clear hk2 hs
            go_wp2_with fail
            by_cases g : 0 ≤ ms ∧ ms < nn
            · have HQ : Hid (oneS f l1 u1 (kd, nn, ms) = (l1, u1, 2, nn)) := by simp [Hid, oneS, h6b, hcl, g]
              refine (fits_no s ms _ g.1 (by have := hss.out; omega) (by have := hss.out; omega)).mono ?_
              rintro e w3 ⟨rfl, rfl⟩
              go_wp2
              exact ⟨rfl, doPost_of (hP.out _ _ _ _ HQ.out (by omega)) (.inr (.inl ⟨.inr rfl, by rw [show ((s.size : Nat) : Int) = nn by have := hss.out; omega]⟩)) hMb.out hDb.out hKb.out⟩
            · have HQ : Hid (oneS f l1 u1 (kd, nn, ms) = (l1, u1, 0, 0)) := by simp [Hid, oneS, h6b, hcl, g]
              refine (fits_yes s ms _ (by have := hss.out; omega) (by have := hss.out; omega)).mono ?_
              rintro e w3 ⟨rfl, rfl⟩
              clear g
              go_wp2
              go_roundw
              case rel => exact ⟨k + 1, l1, u1, by omega, by go_num, by omega, by omega, by omega, by omega, Mtr.other hMb.out hne2.out _, bumped hDb.out, hKb.out.set (.inl (.inr rfl)) _, hO.out _ _ HQ.out⟩
              case measure => simp [intOf]; omega
      · have h6b : kd % 6 = 4 := h6
        by_cases g : nn % 256 = 1 ∨ nn % 256 = 2
        · have HQ : Hid (oneS f l1 u1 (kd, nn, ms) = (l1, u1, nn % 256, ms)) := by simp [Hid, oneS, h6b, g]
          go_wp2_with fail
          refine (throw_good _ ms (by unfold thereB; simp; omega) _).mono ?_
          rintro e w2 ⟨rfl, rfl⟩
          go_wp2
          exact ⟨rfl, doPost_of (hP.out _ _ _ _ HQ.out (by omega)) (.inr (.inl ⟨g, rfl⟩)) hMa.out hDa.out hKa.out⟩
        · have HQ : Hid (oneS f l1 u1 (kd, nn, ms) = (l1, u1, 9, 0)) := by simp [Hid, oneS, h6b, g]
          go_wp2_with fail
          refine (throw_bad _ ms (by unfold thereB; simp; omega) _).mono ?_
          rintro e w2 ⟨rfl, rfl⟩
          go_wp2
          exact ⟨rfl, doPost_of (hP.out _ _ _ _ HQ.out (by omega)) (.inr (.inr (.inr ⟨rfl, rfl⟩))) hMa.out hDa.out hKa.out⟩
      · have h6b : kd % 6 = 5 := h6
        have HQ : Hid (oneS f l1 u1 (kd, nn, ms) = (l1, u1, 8, 0)) := by simp [Hid, oneS, h6b]
        go_wp2_with fail
        refine (boom_any nn _).mono ?_
        rintro e w2 ⟨⟨v, rfl⟩, hk2⟩
        go_wp2
        exact ⟨rfl, doPost_of (hP.out _ _ _ _ HQ.out (by omega)) (.inr (.inr (.inl ⟨rfl, _, rfl⟩))) (Blk.keeps hMa.out hk2 id) (hDa.out.keeps hk2 id) (hKa.out.thenNon hk2)⟩
    · have hkn : k = n := by omega
      subst hkn
      go_wp2_with fail
      go_end0
      exact doPost_of (run_end hlen.out hR.out) (.inl ⟨rfl, rfl⟩) hM.out hD.out hK.out
end Go.Proofs.Ytfjofiofgjlgiaa
