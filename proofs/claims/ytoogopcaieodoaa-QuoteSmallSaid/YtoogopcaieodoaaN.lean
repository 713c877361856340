/-
  What ReadBytes says, as a reading of a list; Canonical. No condition.
-/
import Derived.Test.YtoogopcaieodoaaM
namespace Go.Proofs.Ytoogopcaieodoaa
open Go.RowKit Go.Shelf
attribute [local go_sem] onto_cell onto_frozen
/-- What ReadBytes says: the bytes, how far it came, the error. -/
def rdsF (m : Mk) : Nat → Nat → List UInt8 → List UInt8 → List UInt8 × Int × Int
  | 0, k, out, _ => (out, (k : Int), 0)
  | _ + 1, k, out, [] => (out, (k : Int), 0)
  | f + 1, k, out, c :: r =>
    if (rdB m (c :: r)).2.2 ≠ 0 then ([], (k : Int), 20)
    else rdsF m f (k + (rdB m (c :: r)).2.1.toNat) (out ++ [UInt8.ofNat (rdB m (c :: r)).1.toNat]) ((c :: r).drop (rdB m (c :: r)).2.1.toNat)
def rds (m : Mk) (l : List UInt8) : List UInt8 × Int × Int := rdsF m (l.length + 1) 0 [] l
theorem rds_goes (m : Mk) : ∀ (f k : Nat) (l : List UInt8) (pre : List (Int × Int)), lastAt pre = (k : Int) → Goes (pre ++ eachF m f k l) →
    rdsF m f k (pre.map fun x => UInt8.ofNat x.2.toNat) l = ((pre ++ eachF m f k l).map fun x => UInt8.ofNat x.2.toNat, lastAt (pre ++ eachF m f k l), 0)
  | 0, k, l, pre, hp, _ => by simp [eachF, rdsF, hp]
  | _ + 1, k, [], pre, hp, _ => by simp [eachF, rdsF, hp]
  | f + 1, k, c :: r, pre, hp, hg => by
    rcases rdB_n m (c :: r) with ⟨h1, h2, h3⟩ | ⟨h1, h2, h3⟩
    · have e0 : ¬ (rdB m (c :: r)).2.2 ≠ 0 := by simp [h1]
      simp only [eachF, if_neg e0] at hg ⊢
      simp only [rdsF, if_neg e0]
      have ih := rds_goes m f (k + (rdB m (c :: r)).2.1.toNat) ((c :: r).drop (rdB m (c :: r)).2.1.toNat) (pre ++ [((k : Int) + (rdB m (c :: r)).2.1, (rdB m (c :: r)).1)]) (by
        rw [lastAt_snoc]
        simp only []
        omega) (by simpa using hg)
      simpa using ih
    · have e0 : (rdB m (c :: r)).2.2 ≠ 0 := by rw [h1]; decide
      simp only [eachF, if_pos e0] at hg
      refine absurd ?_ (hg pre _ [] rfl)
      rw [hp, h2]
      simp
theorem rds_stops (m : Mk) : ∀ (f k : Nat) (l : List UInt8) (pre ini : List (Int × Int)) (x : Int × Int), lastAt pre = (k : Int) → pre.length ≤ ini.length → (ini ++ [x] <+: pre ++ eachF m f k l) → x.1 = lastAt ini → ∀ out,
    rdsF m f k out l = ([], lastAt ini, 20)
  | 0, k, l, pre, ini, x, _, hl, hi, _, out => by
    have := hi.length_le
    simp [eachF] at this
    omega
  | _ + 1, k, [], pre, ini, x, _, hl, hi, _, out => by
    have := hi.length_le
    simp [eachF] at this
    omega
  | f + 1, k, c :: r, pre, ini, x, hp, hl, hi, hx, out => by
    obtain ⟨y, hy⟩ : ∃ y : Int × Int, ((k : Int) + (rdB m (c :: r)).2.1, (rdB m (c :: r)).1) = y := ⟨_, rfl⟩
    obtain ⟨t, ht⟩ := hi
    rcases Nat.lt_or_ge pre.length ini.length with hlt | hge
    · rcases rdB_n m (c :: r) with ⟨h1, h2, h3⟩ | ⟨h1, h2, h3⟩
      · have e0 : ¬ (rdB m (c :: r)).2.2 ≠ 0 := by simp [h1]
        simp only [eachF, if_neg e0, hy] at ht
        simp only [rdsF, if_neg e0]
        refine rds_stops m f _ _ (pre ++ [y]) ini x ?_ ?_ ⟨t, ?_⟩ hx _
        · rw [lastAt_snoc, ← hy]
          simp only []
          omega
        · simp; omega
        · rw [ht]; simp
      · have e0 : (rdB m (c :: r)).2.2 ≠ 0 := by rw [h1]; decide
        have := congrArg List.length ht
        simp [eachF, if_pos e0] at this
        omega
    · have el : ini.length = pre.length := by omega
      have e1 : ini = pre ∧ [x] ++ t = eachF m (f + 1) k (c :: r) := List.append_inj (by rw [← List.append_assoc]; exact ht) el
      obtain ⟨rfl, e2⟩ := e1
      simp only [eachF, hy, List.cons_append, List.nil_append, List.cons.injEq] at e2
      obtain ⟨rfl, _⟩ := e2
      rcases rdB_n m (c :: r) with ⟨h1, h2, h3⟩ | ⟨h1, h2, h3⟩
      · rw [← hy, hp] at hx
        simp only [] at hx
        omega
      · have e0 : (rdB m (c :: r)).2.2 ≠ 0 := by rw [h1]; decide
        simp only [rdsF, if_pos e0, hp]
theorem keeps_of_below {w w' : World} (h : Below w.heap.size w w') : Keeps Non w w' := ⟨h.os, h.tape, h.output, h.size, fun k hk _ => h.block k hk⟩
theorem readBytes_any (m : Mk) (s : ByteArray) (w : World) (hs : s.size ≤ 1000000) :
    Calls Try.prog 19 #[.string s, .agg #[.int .u64 m.w0, .int .u64 m.w1, .int .u64 m.w2, .int .u64 m.w3]] w fun e w' => e = .returned (unqT (rds m s.data.toList)) ∧ Keeps Non w w' := by
  refine (callsIn_wide.1 (readBytes_in m s hs w)).mono ?_
  rintro e w' ⟨h, hB⟩
  refine ⟨?_, keeps_of_below hB⟩
  have hl : s.data.toList.length = s.size := rfl
  rcases h with ⟨xs, rfl, hg, rfl⟩ | ⟨ini, x, hp, hg, hx, rfl⟩
  · have h := rds_goes m (s.size + 1) 0 s.data.toList [] rfl (by simpa using hg)
    unfold rds
    rw [hl]
    simp only [List.nil_append, List.map_nil] at h
    rw [h]
    rfl
  · have h := rds_stops m (s.size + 1) 0 s.data.toList [] ini x rfl (by simp) (by simpa using hp) hx []
    unfold rds
    rw [hl, h]
    rfl
set_option maxHeartbeats 2000000 in
theorem canonical_any (m : Mk) (s : ByteArray) (w : World) (hs : s.size ≤ 1000000) (hr : (rds m s.data.toList).1.length ≤ 1000000) :
    Calls Try.prog 15 #[.string s, .agg #[.int .u64 m.w0, .int .u64 m.w1, .int .u64 m.w2, .int .u64 m.w3]] w fun e w' => e = .returned (unqT (formsL m (rds m s.data.toList).1, (rds m s.data.toList).2.1, (rds m s.data.toList).2.2)) ∧ Keeps Non w w' := by
  have HR := hide (fun w => readBytes_any m s w hs)
  obtain ⟨⟨l, at', e'⟩, hX⟩ : ∃ X, rds m s.data.toList = X := ⟨_, rfl⟩
  rw [hX] at HR hr ⊢
  clear hX
  have HB := hide (fun w => bytes_any m ⟨l.toArray⟩ w hr)
  unfold setV at HB
  unfold unqT at HR ⊢
  simp only [] at HR ⊢
  clear hr hs
  go_enter Try.func15, Try.ntmps15
  go_wp2_with fail
  refine (HR.out _).mono ?_
  rintro e w2 ⟨rfl, hk2⟩
  have c0 : w2.cell? ⟨w.heap.size, 0, none⟩ = some (.int .u64 m.w0) := (((Blk.new w (wl m) 24)).keeps hk2 (fun x => x)).cell 0
  have c1 : w2.cell? ⟨w.heap.size, 1, none⟩ = some (.int .u64 m.w1) := (((Blk.new w (wl m) 24)).keeps hk2 (fun x => x)).cell 1
  have c2 : w2.cell? ⟨w.heap.size, 2, none⟩ = some (.int .u64 m.w2) := (((Blk.new w (wl m) 24)).keeps hk2 (fun x => x)).cell 2
  have c3 : w2.cell? ⟨w.heap.size, 3, none⟩ = some (.int .u64 m.w3) := (((Blk.new w (wl m) 24)).keeps hk2 (fun x => x)).cell 3
  have HK2 := hide hk2
  clear hk2
  go_wp2_with fail
  refine (HB.out _).mono ?_
  rintro e w3 ⟨rfl, hk3⟩
  go_wp2_with fail
  go_ret3
  exact ⟨rfl, (((Keeps.refl Non w).alloc _).then HK2.out).then hk3⟩
end Go.Proofs.Ytoogopcaieodoaa
