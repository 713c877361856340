/-
  The walk over tells: the program against the reference. No condition.
-/
import Derived.Test.YtoogopcaieodoaaRp
import Derived.Test.YtoogopcaieodoaaRq
namespace Go.Proofs.Ytoogopcaieodoaa
open Go.RowKit Go.Shelf
attribute [local go_sem] onto_cell onto_frozen
attribute [-go_sem] loadCellsFrom
set_option linter.unusedVariables false
theorem rdsF_cases (m : Mk) : ∀ (f k : Nat) (out l : List UInt8), ((rdsF m f k out l).2.2 = 0 ∨ ((rdsF m f k out l).1 = [] ∧ (rdsF m f k out l).2.2 = 20)) ∧ (rdsF m f k out l).1.length ≤ out.length + l.length
  | 0, k, out, l => ⟨.inl rfl, by simp [rdsF]⟩
  | _ + 1, k, out, [] => ⟨.inl rfl, by simp [rdsF]⟩
  | f + 1, k, out, c :: r => by
    simp only [rdsF]
    split
    · exact ⟨.inr ⟨rfl, rfl⟩, by simp⟩
    · rename_i h
      obtain ⟨h1, h2⟩ := rdsF_cases m f (k + (rdB m (c :: r)).2.1.toNat) (out ++ [UInt8.ofNat (rdB m (c :: r)).1.toNat]) ((c :: r).drop (rdB m (c :: r)).2.1.toNat)
      refine ⟨h1, Nat.le_trans h2 ?_⟩
      have hn := rdB_n m (c :: r)
      rw [List.length_append, List.length_drop]
      simp only [List.length_cons, List.length_nil] at hn ⊢
      omega
theorem lc24 {w : World} {b : Nat} {m : Mk} (h : Blk w b (wl m) 24) : (loadCellsFrom ⟨b, 0, none⟩ 0 4 #[]).run Try.prog w = .ok #[.int .u64 m.w0, .int .u64 m.w1, .int .u64 m.w2, .int .u64 m.w3] w := by
  have := run_loadCells_list (P := Try.prog) w ⟨b, 0, none⟩ (wl m) (fun j v hv => by
    have hadd : (⟨b, 0, none⟩ : Addr).add j = ⟨b, j, none⟩ := by unfold Addr.add; split <;> simp_all
    rw [hadd, h.cell]
    exact hv)
  simpa [loadCells, wl] using this
theorem quote_o (s O : ByteArray) (w : World) (hs : s.size ≤ 1000000) (h : O.data.toList = formsL qm s.data.toList) :
    Calls Try.prog 11 #[.string s] w fun e w' => e = .returned (.string (⟨#[34]⟩ ++ O ++ ⟨#[34]⟩)) ∧ Keeps Non w w' := by
  have e : formS qm s = O := str_ext (by rw [h]; rfl)
  rw [← e]
  exact quote_any s w hs
set_option maxRecDepth 100000 in
set_option maxHeartbeats 40000000 in
theorem tells_l (s : ByteArray) (u : UInt8) (c : Int) (hu : (u.toNat : Int) = c) (m : Mk) (hm : Fits m) (w : World) :
    Calls Try.prog 9 #[.string s, .int .u8 c, .agg #[.int .u64 m.w0, .int .u64 m.w1, .int .u64 m.w2, .int .u64 m.w3]] w fun e w' => e = .returned (.bool true) ∧ Keeps Non w w' := by
  have HU := hide hu
  have HMf := hide hm
  clear hu hm
  by_cases h4 : 400 < (s.size : Int)
  · go_enter Try.func9, Try.ntmps9
    go_wp2_with fail
    go_ret
    exact ⟨rfl, (Keeps.refl _ _).alloc _⟩
  have hs : s.size ≤ 400 := by omega
  have hv := zero60
  obtain ⟨Z, hZ⟩ : ∃ Z : Array Value, Array.replicate 256 (.int .i64 0) = Z := ⟨_, rfl⟩
  rw [hZ] at hv
  have HZz : Hid (Z = (List.replicate 256 (Value.int .i64 0)).toArray) := by
    show _ = _
    rw [← hZ]
    rfl
  have hZ0 : ¬ Z = #[] := by
    rw [← hZ]
    intro h
    have := congrArg Array.size h
    simp at this
  clear hZ
  have HW := hide (fun w => words_l m HMf.out w)
  have hl0 : (loadCellsFrom ⟨w.heap.size, 0, none⟩ 0 4 #[]).run Try.prog (w.alloc (.cells #[.int .u64 m.w0, .int .u64 m.w1, .int .u64 m.w2, .int .u64 m.w3] 24)) = .ok #[.int .u64 m.w0, .int .u64 m.w1, .int .u64 m.w2, .int .u64 m.w3] (w.alloc (.cells #[.int .u64 m.w0, .int .u64 m.w1, .int .u64 m.w2, .int .u64 m.w3] 24)) := lc24 (Blk.new w (wl m) 24)
  have HB := hide (Blk.new w (wl m) 24)
  have HK := hide ((Keeps.refl Non w).alloc (.cells #[.int .u64 m.w0, .int .u64 m.w1, .int .u64 m.w2, .int .u64 m.w3] 24))
  go_enter Try.func9, Try.ntmps9
  go_wp2_with fail
  refine (HW.out _).mono ?_
  rintro e w2 ⟨rfl, hk2⟩
  have hbz : Blk (w2.alloc (.cells Z 60)) w2.heap.size (List.replicate 256 (Value.int .i64 0)) 60 := by
    rw [HZz.out]
    exact Blk.new w2 (List.replicate 256 (Value.int .i64 0)) 60
  have hsc := sc60 hbz (by rw [List.length_replicate]) m
  have HR : Hid (Blk ((w2.alloc (.cells Z 60)).setRow w2.heap.size (mkA m)) w2.heap.size (mkL m) 60) := blk_setRow hbz (mkL m)
  have hk3 : Keeps Non w2 ((w2.alloc (.cells Z 60)).setRow w2.heap.size (mkA m)) := keeps_setRow ((Keeps.refl Non w2).alloc _) (.inr (Nat.le_refl _)) _
  replace HB := hide ((HB.out.keeps hk2 (fun x => x)).keeps hk3 (fun x => x))
  replace HK := hide ((HK.out.then hk2).then hk3)
  clear hbz hk2 hk3 hl0
  go_upto_region 4 with fail
  obtain ⟨z, hz⟩ : ∃ z, w.heap.size = z := ⟨_, rfl⟩
  obtain ⟨y, hy⟩ : ∃ y, w2.heap.size = y := ⟨_, rfl⟩
  obtain ⟨V, hV⟩ : ∃ V, (w2.alloc (.cells Z 60)).setRow w2.heap.size (mkA m) = V := ⟨_, rfl⟩
  rw [hV] at HB HK HR ⊢
  rw [hz] at HB ⊢
  rw [hy] at HR ⊢
  clear hV hz hy hsc hv hZ0
  obtain ⟨u0, hu0⟩ : ∃ u, V = onto V u := ⟨V, (onto_of (Keeps.refl Non V)).symm⟩
  have h24 : ∀ u, (loadCellsFrom ⟨z, 0, none⟩ 0 4 #[]).run Try.prog (onto V u) = .ok #[.int .u64 m.w0, .int .u64 m.w1, .int .u64 m.w2, .int .u64 m.w3] (onto V u) := fun u => lc24 (HB.out.keeps (onto_keeps V u) (fun x => x))
  have h60 : ∀ u, (loadCellsFrom ⟨y, 0, none⟩ 0 256 #[]).run Try.prog (onto V u) = .ok (mkA m) (onto V u) := fun u => lc60 (HR.out.keeps (onto_keeps V u) (fun x => x))
  generalize HWv : onto V u0 = V0 at hu0
  rw [hu0]
  subst HWv
  clear hu0
  obtain ⟨⟨b, nn, e0⟩, hR⟩ : ∃ x, rdB m s.data.toList = x := ⟨_, rfl⟩
  obtain ⟨⟨out, at', er⟩, hX⟩ : ∃ x, rds m s.data.toList = x := ⟨_, rfl⟩
  obtain ⟨⟨uo, ua, ue⟩, hQ⟩ : ∃ x, unq s.data.toList = x := ⟨_, rfl⟩
  have hcs := rdsF_cases m (s.data.toList.length + 1) 0 [] s.data.toList
  rw [show rdsF m (s.data.toList.length + 1) 0 [] s.data.toList = (out, at', er) from hX] at hcs
  obtain ⟨hcs, hol⟩ := hcs
  simp only [List.length_nil] at hcs hol
  have hsl : s.data.toList.length = s.size := rfl
  obtain ⟨o, ho⟩ := str_of (formB m u)
  obtain ⟨t, ht⟩ := str_of (formsL m s.data.toList)
  obtain ⟨tc, htc⟩ := str_of (formsL m out)
  obtain ⟨O, hO⟩ := str_of (formsL qm s.data.toList)
  have lO : O.size ≤ 4 * s.size := by
    have := formsL_length qm s.data.toList
    rw [← hO] at this
    exact this
  have C1 := hide (fun w => rb_l m s (.tuple #[.int .u8 b, .int .i64 nn, .int .i64 e0]) w (by rw [hR]; rfl))
  have C2 := hide (fun w => readByteR_l m s (.tuple #[.int .u8 b, .int .i64 nn, .int .i64 e0]) (by rw [hR]; rfl) w)
  have C3 := hide (fun w => rds_l m s (.tuple #[.string ⟨out.toArray⟩, .int .i64 at', .int .i64 er]) w (by omega) (by rw [hX]; rfl))
  have C4 := hide (fun w => readBytesR_l m s (by omega) (.tuple #[.string ⟨out.toArray⟩, .int .i64 at', .int .i64 er]) (by rw [hX]; rfl) w)
  have C5 := hide (fun w => can_m m s (.tuple #[.string tc, .int .i64 at', .int .i64 er]) w (by omega) (by rw [hX]; show out.length ≤ _; omega) (by rw [hX, ← htc]; rfl))
  have C6 := hide (fun w => unquote_any s w (by omega))
  have C7 := hide (fun w => unquoteR_l s w (by omega))
  rw [hQ] at C6 C7
  unfold unqT at C6 C7
  simp only [] at C6 C7
  have C8 := hide (fun w => byte_l m u c o w HU.out ho)
  have C9 := hide (fun w => byteR_l m u c o w HU.out ho)
  have C10 := hide (fun w => bytes_l m s t w (by omega) ht)
  have C11 := hide (fun w => bytesR_l m s t w (by omega) ht)
  have C12 := hide (fun w => bytesR_l m ⟨out.toArray⟩ tc w (by show out.length ≤ _; omega) htc)
  have C13 := hide (fun w => quote_o s O w (by omega) hO)
  have C14 := hide (fun w => bytesR_l qm s O w (by omega) hO)
  have HTc : Hid (out = [] → tc = ⟨#[]⟩) := fun h => str_ext (by rw [htc, h]; rfl)
  have x1 : ¬ 9223372036854775807 < 1 + O.size := by omega
  have x2 : ¬ 9223372036854775807 < 1 + O.size + 1 := by omega
  clear hR hX hQ ho ht htc hO hsl
  go_wp2_with fail
  refine (onto_call (C1.out _)).mono ?_
  rintro e _ ⟨rfl, ua1, rfl⟩
  go_wp2_with fail
  refine (onto_call (C2.out _)).mono ?_
  rintro e _ ⟨rfl, ua1, rfl⟩
  go_wp2_with fail
  refine (onto_call (C3.out _)).mono ?_
  rintro e _ ⟨rfl, ua1, rfl⟩
  go_wp2_with fail
  refine (onto_call (C4.out _)).mono ?_
  rintro e _ ⟨rfl, ua1, rfl⟩
  go_wp2_with fail
  refine (onto_call (C5.out _)).mono ?_
  rintro e _ ⟨rfl, ua1, rfl⟩
  go_wp2_with fail
  refine (onto_call (C6.out _)).mono ?_
  rintro e _ ⟨rfl, ua1, rfl⟩
  go_wp2_with fail
  refine (onto_call (C7.out _)).mono ?_
  rintro e _ ⟨rfl, ua1, rfl⟩
  go_wp2_with fail
  rcases hcs with rfl | ⟨rfl, rfl⟩
  · refine wp_region_onto2 (by kernel_rfl) (by kernel_rfl) ?_
    simp only [List.append_eq, List.cons_append, List.nil_append]
    repeat (go_big_quiet_step (first | (go_at_call 14; exact onto_call (C8.out _)) | (go_at_call 30; exact onto_call (C9.out _)) | (go_at_call 18; exact onto_call (C10.out _)) | (go_at_call 31; (first | (with_reducible exact onto_call (C11.out _)) | (with_reducible exact onto_call (C12.out _))))))
    refine wpQuiet_nil ?_
    rintro _ ⟨ua1, rfl⟩
    go_wp2_with fail
    refine (onto_call (C13.out _)).mono ?_
    rintro e _ ⟨rfl, ua1, rfl⟩
    go_wp2_with fail
    refine (ofR_q _ _ _ (Blk.new (onto V ua1) [.int .u8 34] 5)).mono ?_
    rintro e w9 ⟨rfl, hk9⟩
    obtain ⟨ua1, rfl⟩ : ∃ u, w9 = onto V u := ⟨w9, (onto_of (((onto_keeps V ua1).alloc _).then hk9)).symm⟩
    clear hk9
    go_wp2_with fail
    refine (onto_call (C14.out _)).mono ?_
    rintro e _ ⟨rfl, ua1, rfl⟩
    go_wp2_with fail
    go_ret
    exact ⟨rfl, HK.out.then (onto_keeps V ua1)⟩
  · have htc := HTc.out rfl
    subst htc
    refine wp_region_onto2 (by kernel_rfl) (by kernel_rfl) ?_
    simp only [List.append_eq, List.cons_append, List.nil_append]
    repeat (go_big_quiet_step (first | (go_at_call 14; exact onto_call (C8.out _)) | (go_at_call 30; exact onto_call (C9.out _)) | (go_at_call 18; exact onto_call (C10.out _)) | (go_at_call 31; (first | (with_reducible exact onto_call (C11.out _)) | (with_reducible exact onto_call (C12.out _))))))
    refine wpQuiet_nil ?_
    rintro _ ⟨ua1, rfl⟩
    go_wp2_with fail
    refine (onto_call (C13.out _)).mono ?_
    rintro e _ ⟨rfl, ua1, rfl⟩
    go_wp2_with fail
    refine (ofR_q _ _ _ (Blk.new (onto V ua1) [.int .u8 34] 5)).mono ?_
    rintro e w9 ⟨rfl, hk9⟩
    obtain ⟨ua1, rfl⟩ : ∃ u, w9 = onto V u := ⟨w9, (onto_of (((onto_keeps V ua1).alloc _).then hk9)).symm⟩
    clear hk9
    go_wp2_with fail
    refine (onto_call (C14.out _)).mono ?_
    rintro e _ ⟨rfl, ua1, rfl⟩
    go_wp2_with fail
    go_ret
    exact ⟨rfl, HK.out.then (onto_keeps V ua1)⟩
end Go.Proofs.Ytoogopcaieodoaa
