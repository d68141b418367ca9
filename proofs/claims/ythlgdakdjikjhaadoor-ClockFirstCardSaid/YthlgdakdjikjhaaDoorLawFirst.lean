/-
  The law ClockFirst, walked.
-/
import Derived.Test.YthlgdakdjikjhaaDoorForms
namespace Go.Proofs.YthlgdakdjikjhaaDoor
open Go.RowKit Go.ChangeMaps
attribute [local go_sem] Oper.semAt_some

set_option maxRecDepth 100000 in
set_option maxHeartbeats 8000000 in
theorem first_walk (a0 : Option Addr) (len0 cap0 : Nat) (X : List (List Int)) (x1 : Nat → Int) (s : ByteArray) (w : World) (hG : Glob w) (w0 : IsRows w a0 len0 cap0 X) (w1 : ∀ c, -9223372036854775808 ≤ x1 c ∧ x1 c ≤ 9223372036854775807) (w2 : s.size ≤ maxLen) :
    Calls Tryd.prog 11 #[.slice a0 len0 cap0, .agg #[.int .i64 (x1 0), .int .i64 (x1 1)], .string s] w fun e w' => e = .returned (.bool true) ∧ Below w.heap.size w w' := by
  have hb0 : Below w.heap.size w (w.alloc (.cells #[.int .i64 (x1 0), .int .i64 (x1 1)] 33)) := (Below.refl _ w).alloc (Nat.le_refl _) _
  have hX := isRows_below w0 hb0
  obtain ⟨rfl, -⟩ := w0
  have TM := hid (tame_any a0 cap0 X _ hX)
  have HB0 := hid hb0
  have q0 : (w.alloc (.cells #[.int .i64 (x1 0), .int .i64 (x1 1)] 33)).cell? ⟨w.heap.size, 0, none⟩ = some (.int .i64 (x1 0)) := (Blk.new w _ _).cell 0
  have q1 : (w.alloc (.cells #[.int .i64 (x1 0), .int .i64 (x1 1)] 33)).cell? ⟨w.heap.size, 1, none⟩ = some (.int .i64 (x1 1)) := (Blk.new w _ _).cell 1
  have hsz : w.heap.size < (w.alloc (.cells #[.int .i64 (x1 0), .int .i64 (x1 1)] 33)).heap.size := by simp
  have bp := w1 0
  have bq := w1 1
  have HG := hid hG
  generalize x1 0 = p at *
  generalize x1 1 = q at *
  clear hX hG hb0 w1
  go_enter Tryd.func11, Tryd.ntmps11
  go_wp2_with fail
  refine TM.out.mono ?_
  rintro e v1 ⟨M, a, c, hM, rfl, ht⟩
  obtain ⟨-, hr, -, -⟩ := ht.out.rows
  have hl := intM_length M
  have hbt := ht.out.below
  have q0' := (hbt.cell (p := ⟨w.heap.size, 0, none⟩) hsz).trans q0
  have q1' := (hbt.cell (p := ⟨w.heap.size, 1, none⟩) hsz).trans q1
  have HB1 := hid (HB0.out.trans (hbt.mono HB0.out.size))
  obtain ⟨g, o, b1, c1, rfl, hg, q2⟩ := head_at hM hr
  have hn9 := hM.n9
  have hn1 := hM.n1
  have hb4 := hM.b4
  have hm1 := hM.b1
  have MD := hid (fun (x : Int) (W : World) (hx : x = p ∨ x = q) => mod_any x (nst M) W (by omega) (by omega) (by rcases hx with rfl | rfl <;> assumption) |>.mono (R' := fun e w' => e = .returned (.int .i64 (modN x (nst M))) ∧ w' = W) fun e w' h => ⟨h.1, h.2.symm⟩)
  obtain ⟨P, hP⟩ : ∃ P, P = modN p (nst M) := ⟨_, rfl⟩
  obtain ⟨Q, hQ⟩ : ∃ Q, Q = modN q (nst M) := ⟨_, rfl⟩
  have hPn : P < nst M := by rw [hP]; exact modN_lt _ _ (by omega)
  have hQn : Q < nst M := by rw [hQ]; exact modN_lt _ _ (by omega)
  obtain ⟨T, hT⟩ : ∃ T, T = mkWord M.length (s.data.toList.take 12) := ⟨_, rfl⟩
  have hTa : T.all (letB M.length) = true := by rw [hT]; exact mkWord_all _ _ (by omega) (by omega)
  have hTl : T.length ≤ 12 := by rw [hT, mkWord, List.length_map, List.length_take]; omega
  have WD := hid (fun (W : World) => show Calls Tryd.prog 38 #[.slice (some ⟨g, o, none⟩) M.length c, .string s, .int .i64 12] W fun e w' => e = .returned (.string (mkS T)) ∧ Below W.heap.size W w' by rw [hT]; exact word_any (some ⟨g, o, none⟩) M.length c s 12 W w2 (by omega) (by omega) (by omega))
  have R := hid (fun (W : World) (hb : Below v1.heap.size v1 W) => Reset_yes (some ⟨g, o, none⟩) c M W hM (hr.below hb (Nat.le_refl _)) (HG.out.next (HB1.out.trans (hb.mono HB1.out.size))))
  have MG := hid (fun (W : World) (hb : Below v1.heap.size v1 W) => Merge_yes (some ⟨g, o, none⟩) c M P Q W hM (hr.below hb (Nat.le_refl _)) hPn hQn)
  have hmx : 12 ≤ maxLen := by decide
  have IM := hid (fun (x : Nat) (W : World) (hb : Below v1.heap.size v1 W) (hx : x < 512) => refImage_any (some ⟨g, o, none⟩) c M x (mkS T) W hM (hr.below hb (Nat.le_refl _)) hx (by rw [mkS_size]; omega) hTa)
  have AL := hid (fun (W : World) (hb : Below v1.heap.size v1 W) => refAll_any (some ⟨g, o, none⟩) c M W hM (hr.below hb (Nat.le_refl _)))
  rw [show 2 ^ nst M - 1 = allS M from rfl] at AL
  have hpl : 2 ^ P < 2 ^ nst M := Nat.pow_lt_pow_right (by omega) hPn
  have hI5 : imgW M (2 ^ P) T < 512 := lt512 hM (imgW_lt hM T _ hpl)
  have hI0 : imgW M (2 ^ P) T ≠ 0 := imgW_ne hM hTa hpl (by have := Nat.two_pow_pos P; omega)
  obtain ⟨z, hz, hzl⟩ := firstE_le hM hpl (wt := eqB (imgW M (2 ^ P) T)) hTa (by simp [eqB])
  have LD := hid (fun (a1 a2 : Option Addr) (c1 c2 : Nat) (W : World) (hb : Below v1.heap.size v1 W) (h1 : Ints W a1 [(P : Int)]) (h2 : Ints W a2 (castL (listN (imgW M (2 ^ P) T)))) =>
    Lead_yes (some ⟨g, o, none⟩) c M a1 c1 [(P : Int)] a2 c2 (castL (listN (imgW M (2 ^ P) T))) W hM (hr.below hb (Nat.le_refl _)) h1 h2 (by simp) (by rw [castL_len]; exact Nat.le_trans (listN_len _) (by decide)) (by simp) (list_ne hI5 hI0) (set_single hPn) (list_set (nst M) (by omega) _ hI5 (imgW_lt hM T _ hpl)))
  rw [num_single, list_num _ hI5, hz] at LD
  simp only [mergeV, castL_len, List.length_singleton] at LD
  have dz := decide_eq_false (leW_not hzl)
  obtain ⟨rs, rq, re, hrf, hrx⟩ := reset_form (firstE M (allS M) oneB)
  obtain ⟨ms, me, hmf, hmx2⟩ := merge_form (firstE M (pairN P Q) oneB)
  rw [hrf] at R
  rw [hmf] at MG
  have hal := allS_lt hM
  have hA5 : imgW M (allS M) T < 512 := lt512 hM (imgW_lt hM T _ hal)
  have hall5 : allS M < 512 := lt512 hM hal
  have hpr := pairN_lt hPn hQn
  have hp5 : pairN P Q < 512 := lt512 hM hpr
  have hD5 : imgW M (pairN P Q) T < 512 := lt512 hM (imgW_lt hM T _ hpr)
  have hR : sizeN (imgW M (allS M) T) = 1 → re = 0 ∧ decide (ltW T rs) = false := fun h => by
    obtain ⟨x, hx, hxl⟩ := firstE_le hM hal (wt := oneB) hTa (by simp [oneB, h])
    obtain ⟨k1, k2, -⟩ := hrx x hx
    exact ⟨k2, by rw [k1]; exact decide_eq_false (leW_not hxl)⟩
  have hMm : sizeN (imgW M (pairN P Q) T) ≤ 1 → me = 0 ∧ decide (ltW T ms) = false := fun h => by
    have h1 := sizeN_pos _ hD5 (imgW_ne hM hTa hpr (pairN_ne P Q))
    obtain ⟨x, hx, hxl⟩ := firstE_le hM hpr (wt := oneB) hTa (by simp [oneB]; omega)
    obtain ⟨k1, k2⟩ := hmx2 x hx
    exact ⟨k2, by rw [k1]; exact decide_eq_false (leW_not hxl)⟩
  have d1 := pow_wrap P (by omega)
  have hP5 : 2 ^ P < 512 := pow_small P (by omega)
  have d0 := pair_bits P Q (by omega) (by omega)
  have IM1 := hid (fun (W : World) (hb : Below v1.heap.size v1 W) => IM.out (2 ^ P) W hb hP5)
  have IM2 := hid (fun (W : World) (hb : Below v1.heap.size v1 W) => IM.out (allS M) W hb hall5)
  have IM3 := hid (fun (W : World) (hb : Below v1.heap.size v1 W) => IM.out (pairN P Q) W hb hp5)
  rw [mkS_data] at IM1 IM2 IM3
  have RL := hid (fun (W : World) => refList_any (imgW M (2 ^ P) T) W hI5)
  have SZ1 := hid (fun (W : World) => refSize_any (imgW M (allS M) T) W hA5)
  have SZ2 := hid (fun (W : World) => refSize_any (imgW M (pairN P Q) T) W hD5)
  have LT1 := hid (fun (W : World) => later_any z.word T W)
  have LT2 := hid (fun (W : World) => later_any rs T W)
  have LT3 := hid (fun (W : World) => later_any ms T W)
  rw [dz] at LT1
  have HP := hid hP
  have HQ := hid hQ
  have C28 := hid (fun (W : World) (hb : Below v1.heap.size v1 W) => (refSize_any (imgW M (pairN P Q) T) W hD5).mono (R' := fun e w' => e = .returned (.int .i64 (sizeN (imgW M (pairN P Q) T))) ∧ Below v1.heap.size v1 w') fun e w' h => ⟨h.1, hb.trans (h.2.mono hb.size)⟩)
  have AW := hid (fun (W : World) (hb : Below v1.heap.size v1 W) => (awake_any W (HG.out.next (HB1.out.trans (hb.mono HB1.out.size)))).mono (R' := fun e w' => e = .returned (.bool true) ∧ Below v1.heap.size v1 w') fun e w' h => ⟨h.1, hb.trans (h.2.mono hb.size)⟩)
  have HR := hid hR
  have HMM := hid hMm
  have hsm := sizeN_le (imgW M (allS M) T)
  have hsp := sizeN_le (imgW M (pairN P Q) T)
  clear hP hQ hR hMm hrx hmx2 hrf hmf hz hzl dz hI0 hI5 hpl hal hall5 hpr hp5 hD5 hA5 hTa hT ht hr hbt IM w2 TM q0 q1 SZ2 hmx
  generalize imgW M (allS M) T = ia at *
  generalize imgW M (pairN P Q) T = ip at *
  generalize imgW M (2 ^ P) T = iP at *
  generalize sizeN ia = sa at *
  generalize sizeN ip = sp at *
  generalize pairN P Q = pq at *
  generalize allS M = al at *
  obtain ⟨tw, htw⟩ : ∃ tw, tw = 2 ^ P := ⟨_, rfl⟩
  rw [← htw] at d1 IM1
  clear htw hM hP5
  generalize nst M = n at *
  go_wp2_with fail
  go_quiet (exact Calls.quiet_of_same (MD.out _ _ (by first | exact .inl rfl | exact .inr rfl)))
  rw [← HP.out, ← HQ.out]
  have HB2 := hid (below_drewN (Below.refl v1.heap.size v1) nq)
  generalize v1.drewN nq = v2 at *
  clear q0' q1' q2 MD
  go_wp2_with fail
  refine (WD.out v2).mono ?_
  rintro e v3 ⟨rfl, hb3⟩
  have HB3 := hid (HB2.out.trans (hb3.mono HB2.out.size))
  clear hb3
  go_wp2_with fail
  refine (R.out v3 HB3.out).mono ?_
  rintro e v4 ⟨rfl, hb4'⟩
  have HB4 := hid (HB3.out.trans (hb4'.mono HB3.out.size))
  clear hb4'
  go_wp2_with fail
  refine (MG.out v4 HB4.out).mono ?_
  rintro e v5 ⟨rfl, hb5⟩
  have HB5 := hid (HB4.out.trans (hb5.mono HB4.out.size))
  clear hb5
  go_wp2_with fail
  refine (IM1.out v5 HB5.out).mono ?_
  rintro e v6 ⟨rfl, rfl⟩
  have B6 := HB5.out.alloc HB5.out.size (.cells #[.int .i64 (P : Int)] 3)
  have I6 := ints_blk (l := [(P : Int)]) (Blk.new v5 #[.int .i64 (P : Int)] 3) rfl
  have HB6 := hid B6
  have HI6 := hid I6
  clear B6 I6
  go_wp2_with fail
  generalize v5.alloc (.cells #[.int .i64 (P : Int)] 3) = v6 at *
  refine (RL.out v6).mono ?_
  rintro e v7 ⟨a7, c7, rfl, ho7, hb7⟩
  have I1 := HI6.out.below hb7 (Nat.le_refl _)
  have I2 : Ints v7 a7 (castL (listN iP)) := retN_ints ho7.out
  have HB7 := hid (HB6.out.trans (hb7.mono HB6.out.size))
  have LDD := hid (LD.out _ a7 1 c7 v7 HB7.out I1 I2)
  clear I1 I2 hb7 ho7 LD
  go_wp2_with fail
  refine LDD.out.mono ?_
  rintro e v8 ⟨rfl, hb8⟩
  have HB8 := hid (HB7.out.trans (hb8.mono HB7.out.size))
  clear hb8
  go_wp2_with fail
  refine (LT1.out v8).mono ?_
  rintro e v9 ⟨rfl, rfl⟩
  go_wp2_with fail
  refine (AL.out v8 HB8.out).mono ?_
  rintro e v9 ⟨rfl, rfl⟩
  go_wp2_with fail
  refine (IM2.out v8 HB8.out).mono ?_
  rintro e v9 ⟨rfl, rfl⟩
  go_wp2_with fail
  refine (SZ1.out v8).mono ?_
  rintro e v9 ⟨rfl, hb9⟩
  have HB9 := hid (HB8.out.trans (hb9.mono HB8.out.size))
  clear hb9
  by_cases h1 : sa = 1
  · obtain ⟨rfl, hlt⟩ := HR.out h1
    rw [hlt] at LT2
    have x1 : ((sa : Int) == 1) = true := beq_iff_eq.2 (by omega)
    clear h1 hlt
    go_wp2_with fail
    refine (LT2.out v9).mono ?_
    rintro e v10 ⟨rfl, rfl⟩
    go_wp2_with fail
    by_cases h2 : 1 < sp
    · have x2 : decide ((sp : Int) > 1) = true := decide_eq_true (by omega)
      have x3 : decide (1 < sp) = true := decide_eq_true h2
      clear h2
      refine wp_region_any (by kernel_rfl) ?_
      refine take_d 0 (some 87) ?v0a (by kernel_rfl) (by kernel_rfl) (by kernel_rfl) (fun _ _ _ h => h) ⟨_, rfl, rfl, Or.inl ⟨by kernel_rfl, ?hy0a⟩⟩ ?_
      case hy0a => (intro w; go_simp); try with_reducible rfl
      refine take_d 1 (some 88) ?v1a (by kernel_rfl) (by kernel_rfl) (by kernel_rfl) (fun _ _ _ h => h) ⟨_, rfl, rfl, Or.inl ⟨by kernel_rfl, ?hy1a⟩⟩ ?_
      case hy1a => (intro w; go_simp); try with_reducible rfl
      refine take_d 2 (some 89) ?v2a (by kernel_rfl) (by kernel_rfl) (by kernel_rfl) (fun _ _ _ h => h) ⟨_, rfl, rfl, Or.inl ⟨by kernel_rfl, ?hy2a⟩⟩ ?_
      case hy2a => (intro w; go_simp); try with_reducible rfl
      refine take_d 3 (some 90) ?v3a (by kernel_rfl) (by kernel_rfl) (by kernel_rfl) (fun _ _ _ h => h) ⟨_, rfl, rfl, Or.inl ⟨by kernel_rfl, ?hy3a⟩⟩ ?_
      case hy3a => (intro w; go_simp); try with_reducible rfl
      refine take_d 4 (some 91) ?v4a (by kernel_rfl) (by kernel_rfl) (by kernel_rfl) (fun _ _ _ h => h) ⟨_, rfl, rfl, Or.inl ⟨by kernel_rfl, ?hy4a⟩⟩ ?_
      case hy4a => (intro w; go_simp); try with_reducible rfl
      refine take_d 5 (some 92) ?v5a (by kernel_rfl) (by kernel_rfl) (by kernel_rfl) (fun _ _ _ h => h) ⟨_, rfl, rfl, Or.inl ⟨by kernel_rfl, ?hy5a⟩⟩ ?_
      case hy5a => (intro w; go_simp); try with_reducible rfl
      refine take_d 6 (some 93) ?v6a (by kernel_rfl) (by kernel_rfl) (by kernel_rfl) (fun _ _ _ h => h) ⟨_, rfl, rfl, Or.inl ⟨by kernel_rfl, ?hy6a⟩⟩ ?_
      case hy6a => (intro w; go_simp); try with_reducible rfl
      refine wpAny_ready (rs := [7]) (by kernel_rfl) (by simp) (AllReady.cons rfl (fun K hK => ?_) AllReady.nil)
      go_simp
      (go_wp2_with (go_at_call 29; go_must (refine (IM3.out _ ?_).mono ?_); (first | exact HB9.out.drew | exact HB9.out); rintro e wz ⟨rfl, rfl⟩))
      refine wpAny_ready (rs := [8]) (by kernel_rfl) (by simp) (AllReady.cons rfl (fun K hK => ?_) AllReady.nil)
      go_simp
      (go_wp2_with (go_at_call 28; go_must (refine (C28.out _ ?_).mono ?_); (first | exact HB9.out.drew | exact HB9.out); rintro e wz ⟨rfl, hbz⟩))
      refine take_d 9 (some 96) ?v9a (by kernel_rfl) (by kernel_rfl) (by kernel_rfl) (fun _ _ _ h => h) ⟨_, rfl, rfl, Or.inl ⟨by kernel_rfl, ?hy9a⟩⟩ ?_
      case hy9a => (intro w; go_simp); try with_reducible rfl
      refine take_d 10 (some 97) ?v10a (by kernel_rfl) (by kernel_rfl) (by kernel_rfl) (fun _ _ _ h => h) ⟨_, rfl, rfl, Or.inl ⟨by kernel_rfl, ?hy10a⟩⟩ ?_
      case hy10a => (intro w; go_simp); try with_reducible rfl
      refine take_d 11 (some 98) undef (by kernel_rfl) (by kernel_rfl) (by kernel_rfl) (fun _ _ _ h => h) ⟨_, rfl, rfl, Or.inr ⟨by kernel_rfl, rfl⟩⟩ ?_
      refine take_d 12 (some 99) undef (by kernel_rfl) (by kernel_rfl) (by kernel_rfl) (fun _ _ _ h => h) ⟨_, rfl, rfl, Or.inr ⟨by kernel_rfl, rfl⟩⟩ ?_
      refine take_d 13 (some 100) undef (by kernel_rfl) (by kernel_rfl) (by kernel_rfl) (fun _ _ _ h => h) ⟨_, rfl, rfl, Or.inr ⟨by kernel_rfl, rfl⟩⟩ ?_
      refine take_d 14 (some 101) undef (by kernel_rfl) (by kernel_rfl) (by kernel_rfl) (fun _ _ _ h => h) ⟨_, rfl, rfl, Or.inr ⟨by kernel_rfl, rfl⟩⟩ ?_
      refine take_d 15 (some 102) undef (by kernel_rfl) (by kernel_rfl) (by kernel_rfl) (fun _ _ _ h => h) ⟨_, rfl, rfl, Or.inr ⟨by kernel_rfl, rfl⟩⟩ ?_
      refine skip_d 16 (some 103) (by kernel_rfl) ⟨_, rfl, rfl, by kernel_rfl⟩ ?_
      refine take_d 17 (some 104) undef (by kernel_rfl) (by kernel_rfl) (by kernel_rfl) (fun _ _ _ h => h) ⟨_, rfl, rfl, Or.inr ⟨by kernel_rfl, rfl⟩⟩ ?_
      refine take_d 18 (some 105) undef (by kernel_rfl) (by kernel_rfl) (by kernel_rfl) (fun _ _ _ h => h) ⟨_, rfl, rfl, Or.inr ⟨by kernel_rfl, rfl⟩⟩ ?_
      refine take_d 19 (some 106) ?v19a (by kernel_rfl) (by kernel_rfl) (by kernel_rfl) (fun _ _ _ h => h) ⟨_, rfl, rfl, Or.inl ⟨by kernel_rfl, ?hy19a⟩⟩ ?_
      case hy19a => (intro w; go_simp); try with_reducible rfl
      refine take_d 20 (some 107) ?v20a (by kernel_rfl) (by kernel_rfl) (by kernel_rfl) (fun _ _ _ h => h) ⟨_, rfl, rfl, Or.inl ⟨by kernel_rfl, ?hy20a⟩⟩ ?_
      case hy20a => (intro w; go_simp); try with_reducible rfl
      refine wpAny_ready (rs := [21]) (by kernel_rfl) (by simp) (AllReady.cons rfl (fun K hK => ?_) AllReady.nil)
      go_simp
      (go_wp2_with (go_at_call 17; go_must (refine (AW.out _ ?_).mono ?_); exact hbz; rintro e wx ⟨rfl, hbx⟩))
      refine take_d 22 (some 109) ?v22a (by kernel_rfl) (by kernel_rfl) (by kernel_rfl) (fun _ _ _ h => h) ⟨_, rfl, rfl, Or.inl ⟨by kernel_rfl, ?hy22a⟩⟩ ?_
      case hy22a => (intro w; go_simp); try with_reducible rfl
      refine take_d 23 (some 6) ?v23a (by kernel_rfl) (by kernel_rfl) (by kernel_rfl) (fun _ _ _ h => h) ⟨_, rfl, rfl, Or.inl ⟨by kernel_rfl, ?hy23a⟩⟩ ?_
      case hy23a => (intro w; go_simp); try with_reducible rfl
      refine wpAny_done (by kernel_rfl) ?_ _
      have HBX := hid (HB1.out.trans ((show Below v1.heap.size v1 _ from hbx).mono HB1.out.size))
      clear hbx
      go_wp2_with fail
      go_ret
      exact ⟨rfl, HBX.out⟩
    · obtain ⟨rfl, hlt⟩ := HMM.out (by omega)
      rw [hlt] at LT3
      have x2 : decide ((sp : Int) > 1) = false := decide_eq_false (by omega)
      have x3 : decide (1 < sp) = false := decide_eq_false h2
      clear h2 hlt
      refine wp_region_any (by kernel_rfl) ?_
      refine take_d 0 (some 87) ?v0b (by kernel_rfl) (by kernel_rfl) (by kernel_rfl) (fun _ _ _ h => h) ⟨_, rfl, rfl, Or.inl ⟨by kernel_rfl, ?hy0b⟩⟩ ?_
      case hy0b => (intro w; go_simp); try with_reducible rfl
      refine take_d 1 (some 88) ?v1b (by kernel_rfl) (by kernel_rfl) (by kernel_rfl) (fun _ _ _ h => h) ⟨_, rfl, rfl, Or.inl ⟨by kernel_rfl, ?hy1b⟩⟩ ?_
      case hy1b => (intro w; go_simp); try with_reducible rfl
      refine take_d 2 (some 89) ?v2b (by kernel_rfl) (by kernel_rfl) (by kernel_rfl) (fun _ _ _ h => h) ⟨_, rfl, rfl, Or.inl ⟨by kernel_rfl, ?hy2b⟩⟩ ?_
      case hy2b => (intro w; go_simp); try with_reducible rfl
      refine take_d 3 (some 90) ?v3b (by kernel_rfl) (by kernel_rfl) (by kernel_rfl) (fun _ _ _ h => h) ⟨_, rfl, rfl, Or.inl ⟨by kernel_rfl, ?hy3b⟩⟩ ?_
      case hy3b => (intro w; go_simp); try with_reducible rfl
      refine take_d 4 (some 91) ?v4b (by kernel_rfl) (by kernel_rfl) (by kernel_rfl) (fun _ _ _ h => h) ⟨_, rfl, rfl, Or.inl ⟨by kernel_rfl, ?hy4b⟩⟩ ?_
      case hy4b => (intro w; go_simp); try with_reducible rfl
      refine take_d 5 (some 92) ?v5b (by kernel_rfl) (by kernel_rfl) (by kernel_rfl) (fun _ _ _ h => h) ⟨_, rfl, rfl, Or.inl ⟨by kernel_rfl, ?hy5b⟩⟩ ?_
      case hy5b => (intro w; go_simp); try with_reducible rfl
      refine take_d 6 (some 93) ?v6b (by kernel_rfl) (by kernel_rfl) (by kernel_rfl) (fun _ _ _ h => h) ⟨_, rfl, rfl, Or.inl ⟨by kernel_rfl, ?hy6b⟩⟩ ?_
      case hy6b => (intro w; go_simp); try with_reducible rfl
      refine wpAny_ready (rs := [7]) (by kernel_rfl) (by simp) (AllReady.cons rfl (fun K hK => ?_) AllReady.nil)
      go_simp
      (go_wp2_with (go_at_call 29; go_must (refine (IM3.out _ ?_).mono ?_); (first | exact HB9.out.drew | exact HB9.out); rintro e wz ⟨rfl, rfl⟩))
      refine wpAny_ready (rs := [8]) (by kernel_rfl) (by simp) (AllReady.cons rfl (fun K hK => ?_) AllReady.nil)
      go_simp
      (go_wp2_with (go_at_call 28; go_must (refine (C28.out _ ?_).mono ?_); (first | exact HB9.out.drew | exact HB9.out); rintro e wz ⟨rfl, hbz⟩))
      refine take_d 9 (some 96) ?v9b (by kernel_rfl) (by kernel_rfl) (by kernel_rfl) (fun _ _ _ h => h) ⟨_, rfl, rfl, Or.inl ⟨by kernel_rfl, ?hy9b⟩⟩ ?_
      case hy9b => (intro w; go_simp); try with_reducible rfl
      refine take_d 10 (some 97) ?v10b (by kernel_rfl) (by kernel_rfl) (by kernel_rfl) (fun _ _ _ h => h) ⟨_, rfl, rfl, Or.inl ⟨by kernel_rfl, ?hy10b⟩⟩ ?_
      case hy10b => (intro w; go_simp); try with_reducible rfl
      refine take_d 11 (some 98) ?v11b (by kernel_rfl) (by kernel_rfl) (by kernel_rfl) (fun _ _ _ h => h) ⟨_, rfl, rfl, Or.inl ⟨by kernel_rfl, ?hy11b⟩⟩ ?_
      case hy11b => (intro w; go_simp); try with_reducible rfl
      refine take_d 12 (some 99) ?v12b (by kernel_rfl) (by kernel_rfl) (by kernel_rfl) (fun _ _ _ h => h) ⟨_, rfl, rfl, Or.inl ⟨by kernel_rfl, ?hy12b⟩⟩ ?_
      case hy12b => (intro w; go_simp); try with_reducible rfl
      refine take_d 13 (some 100) ?v13b (by kernel_rfl) (by kernel_rfl) (by kernel_rfl) (fun _ _ _ h => h) ⟨_, rfl, rfl, Or.inl ⟨by kernel_rfl, ?hy13b⟩⟩ ?_
      case hy13b => (intro w; go_simp); try with_reducible rfl
      refine take_d 14 (some 101) ?v14b (by kernel_rfl) (by kernel_rfl) (by kernel_rfl) (fun _ _ _ h => h) ⟨_, rfl, rfl, Or.inl ⟨by kernel_rfl, ?hy14b⟩⟩ ?_
      case hy14b => (intro w; go_simp); try with_reducible rfl
      refine take_d 15 (some 102) ?v15b (by kernel_rfl) (by kernel_rfl) (by kernel_rfl) (fun _ _ _ h => h) ⟨_, rfl, rfl, Or.inl ⟨by kernel_rfl, ?hy15b⟩⟩ ?_
      case hy15b => (intro w; go_simp); try with_reducible rfl
      refine wpAny_ready (rs := [16]) (by kernel_rfl) (by simp) (AllReady.cons rfl (fun K hK => ?_) AllReady.nil)
      go_simp
      (go_wp2_with (go_at_call 42; go_must (refine (LT3.out _).mono ?_); rintro e wy ⟨rfl, rfl⟩))
      refine take_d 17 (some 104) ?v17b (by kernel_rfl) (by kernel_rfl) (by kernel_rfl) (fun _ _ _ h => h) ⟨_, rfl, rfl, Or.inl ⟨by kernel_rfl, ?hy17b⟩⟩ ?_
      case hy17b => (intro w; go_simp); try with_reducible rfl
      refine take_d 18 (some 105) ?v18b (by kernel_rfl) (by kernel_rfl) (by kernel_rfl) (fun _ _ _ h => h) ⟨_, rfl, rfl, Or.inl ⟨by kernel_rfl, ?hy18b⟩⟩ ?_
      case hy18b => (intro w; go_simp); try with_reducible rfl
      refine take_d 19 (some 106) ?v19b (by kernel_rfl) (by kernel_rfl) (by kernel_rfl) (fun _ _ _ h => h) ⟨_, rfl, rfl, Or.inl ⟨by kernel_rfl, ?hy19b⟩⟩ ?_
      case hy19b => (intro w; go_simp); try with_reducible rfl
      refine take_d 20 (some 107) ?v20b (by kernel_rfl) (by kernel_rfl) (by kernel_rfl) (fun _ _ _ h => h) ⟨_, rfl, rfl, Or.inl ⟨by kernel_rfl, ?hy20b⟩⟩ ?_
      case hy20b => (intro w; go_simp); try with_reducible rfl
      refine wpAny_ready (rs := [21]) (by kernel_rfl) (by simp) (AllReady.cons rfl (fun K hK => ?_) AllReady.nil)
      go_simp
      (go_wp2_with (go_at_call 17; go_must (refine (AW.out _ ?_).mono ?_); exact hbz; rintro e wx ⟨rfl, hbx⟩))
      refine take_d 22 (some 109) ?v22b (by kernel_rfl) (by kernel_rfl) (by kernel_rfl) (fun _ _ _ h => h) ⟨_, rfl, rfl, Or.inl ⟨by kernel_rfl, ?hy22b⟩⟩ ?_
      case hy22b => (intro w; go_simp); try with_reducible rfl
      refine take_d 23 (some 6) ?v23b (by kernel_rfl) (by kernel_rfl) (by kernel_rfl) (fun _ _ _ h => h) ⟨_, rfl, rfl, Or.inl ⟨by kernel_rfl, ?hy23b⟩⟩ ?_
      case hy23b => (intro w; go_simp); try with_reducible rfl
      refine wpAny_done (by kernel_rfl) ?_ _
      have HBX := hid (HB1.out.trans ((show Below v1.heap.size v1 _ from hbx).mono HB1.out.size))
      clear hbx
      go_wp2_with fail
      go_ret
      exact ⟨rfl, HBX.out⟩
  · have x1 : ((sa : Int) == 1) = false := beq_eq_false_iff_ne.2 (by omega)
    clear h1
    go_wp2_with fail
    by_cases h2 : 1 < sp
    · have x2 : decide ((sp : Int) > 1) = true := decide_eq_true (by omega)
      have x3 : decide (1 < sp) = true := decide_eq_true h2
      clear h2
      refine wp_region_any (by kernel_rfl) ?_
      refine take_d 0 (some 87) ?v0c (by kernel_rfl) (by kernel_rfl) (by kernel_rfl) (fun _ _ _ h => h) ⟨_, rfl, rfl, Or.inl ⟨by kernel_rfl, ?hy0c⟩⟩ ?_
      case hy0c => (intro w; go_simp); try with_reducible rfl
      refine take_d 1 (some 88) ?v1c (by kernel_rfl) (by kernel_rfl) (by kernel_rfl) (fun _ _ _ h => h) ⟨_, rfl, rfl, Or.inl ⟨by kernel_rfl, ?hy1c⟩⟩ ?_
      case hy1c => (intro w; go_simp); try with_reducible rfl
      refine take_d 2 (some 89) ?v2c (by kernel_rfl) (by kernel_rfl) (by kernel_rfl) (fun _ _ _ h => h) ⟨_, rfl, rfl, Or.inl ⟨by kernel_rfl, ?hy2c⟩⟩ ?_
      case hy2c => (intro w; go_simp); try with_reducible rfl
      refine take_d 3 (some 90) ?v3c (by kernel_rfl) (by kernel_rfl) (by kernel_rfl) (fun _ _ _ h => h) ⟨_, rfl, rfl, Or.inl ⟨by kernel_rfl, ?hy3c⟩⟩ ?_
      case hy3c => (intro w; go_simp); try with_reducible rfl
      refine take_d 4 (some 91) ?v4c (by kernel_rfl) (by kernel_rfl) (by kernel_rfl) (fun _ _ _ h => h) ⟨_, rfl, rfl, Or.inl ⟨by kernel_rfl, ?hy4c⟩⟩ ?_
      case hy4c => (intro w; go_simp); try with_reducible rfl
      refine take_d 5 (some 92) ?v5c (by kernel_rfl) (by kernel_rfl) (by kernel_rfl) (fun _ _ _ h => h) ⟨_, rfl, rfl, Or.inl ⟨by kernel_rfl, ?hy5c⟩⟩ ?_
      case hy5c => (intro w; go_simp); try with_reducible rfl
      refine take_d 6 (some 93) ?v6c (by kernel_rfl) (by kernel_rfl) (by kernel_rfl) (fun _ _ _ h => h) ⟨_, rfl, rfl, Or.inl ⟨by kernel_rfl, ?hy6c⟩⟩ ?_
      case hy6c => (intro w; go_simp); try with_reducible rfl
      refine wpAny_ready (rs := [7]) (by kernel_rfl) (by simp) (AllReady.cons rfl (fun K hK => ?_) AllReady.nil)
      go_simp
      (go_wp2_with (go_at_call 29; go_must (refine (IM3.out _ ?_).mono ?_); (first | exact HB9.out.drew | exact HB9.out); rintro e wz ⟨rfl, rfl⟩))
      refine wpAny_ready (rs := [8]) (by kernel_rfl) (by simp) (AllReady.cons rfl (fun K hK => ?_) AllReady.nil)
      go_simp
      (go_wp2_with (go_at_call 28; go_must (refine (C28.out _ ?_).mono ?_); (first | exact HB9.out.drew | exact HB9.out); rintro e wz ⟨rfl, hbz⟩))
      refine take_d 9 (some 96) ?v9c (by kernel_rfl) (by kernel_rfl) (by kernel_rfl) (fun _ _ _ h => h) ⟨_, rfl, rfl, Or.inl ⟨by kernel_rfl, ?hy9c⟩⟩ ?_
      case hy9c => (intro w; go_simp); try with_reducible rfl
      refine take_d 10 (some 97) ?v10c (by kernel_rfl) (by kernel_rfl) (by kernel_rfl) (fun _ _ _ h => h) ⟨_, rfl, rfl, Or.inl ⟨by kernel_rfl, ?hy10c⟩⟩ ?_
      case hy10c => (intro w; go_simp); try with_reducible rfl
      refine take_d 11 (some 98) undef (by kernel_rfl) (by kernel_rfl) (by kernel_rfl) (fun _ _ _ h => h) ⟨_, rfl, rfl, Or.inr ⟨by kernel_rfl, rfl⟩⟩ ?_
      refine take_d 12 (some 99) undef (by kernel_rfl) (by kernel_rfl) (by kernel_rfl) (fun _ _ _ h => h) ⟨_, rfl, rfl, Or.inr ⟨by kernel_rfl, rfl⟩⟩ ?_
      refine take_d 13 (some 100) undef (by kernel_rfl) (by kernel_rfl) (by kernel_rfl) (fun _ _ _ h => h) ⟨_, rfl, rfl, Or.inr ⟨by kernel_rfl, rfl⟩⟩ ?_
      refine take_d 14 (some 101) undef (by kernel_rfl) (by kernel_rfl) (by kernel_rfl) (fun _ _ _ h => h) ⟨_, rfl, rfl, Or.inr ⟨by kernel_rfl, rfl⟩⟩ ?_
      refine take_d 15 (some 102) undef (by kernel_rfl) (by kernel_rfl) (by kernel_rfl) (fun _ _ _ h => h) ⟨_, rfl, rfl, Or.inr ⟨by kernel_rfl, rfl⟩⟩ ?_
      refine skip_d 16 (some 103) (by kernel_rfl) ⟨_, rfl, rfl, by kernel_rfl⟩ ?_
      refine take_d 17 (some 104) undef (by kernel_rfl) (by kernel_rfl) (by kernel_rfl) (fun _ _ _ h => h) ⟨_, rfl, rfl, Or.inr ⟨by kernel_rfl, rfl⟩⟩ ?_
      refine take_d 18 (some 105) undef (by kernel_rfl) (by kernel_rfl) (by kernel_rfl) (fun _ _ _ h => h) ⟨_, rfl, rfl, Or.inr ⟨by kernel_rfl, rfl⟩⟩ ?_
      refine take_d 19 (some 106) ?v19c (by kernel_rfl) (by kernel_rfl) (by kernel_rfl) (fun _ _ _ h => h) ⟨_, rfl, rfl, Or.inl ⟨by kernel_rfl, ?hy19c⟩⟩ ?_
      case hy19c => (intro w; go_simp); try with_reducible rfl
      refine take_d 20 (some 107) ?v20c (by kernel_rfl) (by kernel_rfl) (by kernel_rfl) (fun _ _ _ h => h) ⟨_, rfl, rfl, Or.inl ⟨by kernel_rfl, ?hy20c⟩⟩ ?_
      case hy20c => (intro w; go_simp); try with_reducible rfl
      refine wpAny_ready (rs := [21]) (by kernel_rfl) (by simp) (AllReady.cons rfl (fun K hK => ?_) AllReady.nil)
      go_simp
      (go_wp2_with (go_at_call 17; go_must (refine (AW.out _ ?_).mono ?_); exact hbz; rintro e wx ⟨rfl, hbx⟩))
      refine take_d 22 (some 109) ?v22c (by kernel_rfl) (by kernel_rfl) (by kernel_rfl) (fun _ _ _ h => h) ⟨_, rfl, rfl, Or.inl ⟨by kernel_rfl, ?hy22c⟩⟩ ?_
      case hy22c => (intro w; go_simp); try with_reducible rfl
      refine take_d 23 (some 6) ?v23c (by kernel_rfl) (by kernel_rfl) (by kernel_rfl) (fun _ _ _ h => h) ⟨_, rfl, rfl, Or.inl ⟨by kernel_rfl, ?hy23c⟩⟩ ?_
      case hy23c => (intro w; go_simp); try with_reducible rfl
      refine wpAny_done (by kernel_rfl) ?_ _
      have HBX := hid (HB1.out.trans ((show Below v1.heap.size v1 _ from hbx).mono HB1.out.size))
      clear hbx
      go_wp2_with fail
      go_ret
      exact ⟨rfl, HBX.out⟩
    · obtain ⟨rfl, hlt⟩ := HMM.out (by omega)
      rw [hlt] at LT3
      have x2 : decide ((sp : Int) > 1) = false := decide_eq_false (by omega)
      have x3 : decide (1 < sp) = false := decide_eq_false h2
      clear h2 hlt
      refine wp_region_any (by kernel_rfl) ?_
      refine take_d 0 (some 87) ?v0d (by kernel_rfl) (by kernel_rfl) (by kernel_rfl) (fun _ _ _ h => h) ⟨_, rfl, rfl, Or.inl ⟨by kernel_rfl, ?hy0d⟩⟩ ?_
      case hy0d => (intro w; go_simp); try with_reducible rfl
      refine take_d 1 (some 88) ?v1d (by kernel_rfl) (by kernel_rfl) (by kernel_rfl) (fun _ _ _ h => h) ⟨_, rfl, rfl, Or.inl ⟨by kernel_rfl, ?hy1d⟩⟩ ?_
      case hy1d => (intro w; go_simp); try with_reducible rfl
      refine take_d 2 (some 89) ?v2d (by kernel_rfl) (by kernel_rfl) (by kernel_rfl) (fun _ _ _ h => h) ⟨_, rfl, rfl, Or.inl ⟨by kernel_rfl, ?hy2d⟩⟩ ?_
      case hy2d => (intro w; go_simp); try with_reducible rfl
      refine take_d 3 (some 90) ?v3d (by kernel_rfl) (by kernel_rfl) (by kernel_rfl) (fun _ _ _ h => h) ⟨_, rfl, rfl, Or.inl ⟨by kernel_rfl, ?hy3d⟩⟩ ?_
      case hy3d => (intro w; go_simp); try with_reducible rfl
      refine take_d 4 (some 91) ?v4d (by kernel_rfl) (by kernel_rfl) (by kernel_rfl) (fun _ _ _ h => h) ⟨_, rfl, rfl, Or.inl ⟨by kernel_rfl, ?hy4d⟩⟩ ?_
      case hy4d => (intro w; go_simp); try with_reducible rfl
      refine take_d 5 (some 92) ?v5d (by kernel_rfl) (by kernel_rfl) (by kernel_rfl) (fun _ _ _ h => h) ⟨_, rfl, rfl, Or.inl ⟨by kernel_rfl, ?hy5d⟩⟩ ?_
      case hy5d => (intro w; go_simp); try with_reducible rfl
      refine take_d 6 (some 93) ?v6d (by kernel_rfl) (by kernel_rfl) (by kernel_rfl) (fun _ _ _ h => h) ⟨_, rfl, rfl, Or.inl ⟨by kernel_rfl, ?hy6d⟩⟩ ?_
      case hy6d => (intro w; go_simp); try with_reducible rfl
      refine wpAny_ready (rs := [7]) (by kernel_rfl) (by simp) (AllReady.cons rfl (fun K hK => ?_) AllReady.nil)
      go_simp
      (go_wp2_with (go_at_call 29; go_must (refine (IM3.out _ ?_).mono ?_); (first | exact HB9.out.drew | exact HB9.out); rintro e wz ⟨rfl, rfl⟩))
      refine wpAny_ready (rs := [8]) (by kernel_rfl) (by simp) (AllReady.cons rfl (fun K hK => ?_) AllReady.nil)
      go_simp
      (go_wp2_with (go_at_call 28; go_must (refine (C28.out _ ?_).mono ?_); (first | exact HB9.out.drew | exact HB9.out); rintro e wz ⟨rfl, hbz⟩))
      refine take_d 9 (some 96) ?v9d (by kernel_rfl) (by kernel_rfl) (by kernel_rfl) (fun _ _ _ h => h) ⟨_, rfl, rfl, Or.inl ⟨by kernel_rfl, ?hy9d⟩⟩ ?_
      case hy9d => (intro w; go_simp); try with_reducible rfl
      refine take_d 10 (some 97) ?v10d (by kernel_rfl) (by kernel_rfl) (by kernel_rfl) (fun _ _ _ h => h) ⟨_, rfl, rfl, Or.inl ⟨by kernel_rfl, ?hy10d⟩⟩ ?_
      case hy10d => (intro w; go_simp); try with_reducible rfl
      refine take_d 11 (some 98) ?v11d (by kernel_rfl) (by kernel_rfl) (by kernel_rfl) (fun _ _ _ h => h) ⟨_, rfl, rfl, Or.inl ⟨by kernel_rfl, ?hy11d⟩⟩ ?_
      case hy11d => (intro w; go_simp); try with_reducible rfl
      refine take_d 12 (some 99) ?v12d (by kernel_rfl) (by kernel_rfl) (by kernel_rfl) (fun _ _ _ h => h) ⟨_, rfl, rfl, Or.inl ⟨by kernel_rfl, ?hy12d⟩⟩ ?_
      case hy12d => (intro w; go_simp); try with_reducible rfl
      refine take_d 13 (some 100) ?v13d (by kernel_rfl) (by kernel_rfl) (by kernel_rfl) (fun _ _ _ h => h) ⟨_, rfl, rfl, Or.inl ⟨by kernel_rfl, ?hy13d⟩⟩ ?_
      case hy13d => (intro w; go_simp); try with_reducible rfl
      refine take_d 14 (some 101) ?v14d (by kernel_rfl) (by kernel_rfl) (by kernel_rfl) (fun _ _ _ h => h) ⟨_, rfl, rfl, Or.inl ⟨by kernel_rfl, ?hy14d⟩⟩ ?_
      case hy14d => (intro w; go_simp); try with_reducible rfl
      refine take_d 15 (some 102) ?v15d (by kernel_rfl) (by kernel_rfl) (by kernel_rfl) (fun _ _ _ h => h) ⟨_, rfl, rfl, Or.inl ⟨by kernel_rfl, ?hy15d⟩⟩ ?_
      case hy15d => (intro w; go_simp); try with_reducible rfl
      refine wpAny_ready (rs := [16]) (by kernel_rfl) (by simp) (AllReady.cons rfl (fun K hK => ?_) AllReady.nil)
      go_simp
      (go_wp2_with (go_at_call 42; go_must (refine (LT3.out _).mono ?_); rintro e wy ⟨rfl, rfl⟩))
      refine take_d 17 (some 104) ?v17d (by kernel_rfl) (by kernel_rfl) (by kernel_rfl) (fun _ _ _ h => h) ⟨_, rfl, rfl, Or.inl ⟨by kernel_rfl, ?hy17d⟩⟩ ?_
      case hy17d => (intro w; go_simp); try with_reducible rfl
      refine take_d 18 (some 105) ?v18d (by kernel_rfl) (by kernel_rfl) (by kernel_rfl) (fun _ _ _ h => h) ⟨_, rfl, rfl, Or.inl ⟨by kernel_rfl, ?hy18d⟩⟩ ?_
      case hy18d => (intro w; go_simp); try with_reducible rfl
      refine take_d 19 (some 106) ?v19d (by kernel_rfl) (by kernel_rfl) (by kernel_rfl) (fun _ _ _ h => h) ⟨_, rfl, rfl, Or.inl ⟨by kernel_rfl, ?hy19d⟩⟩ ?_
      case hy19d => (intro w; go_simp); try with_reducible rfl
      refine take_d 20 (some 107) ?v20d (by kernel_rfl) (by kernel_rfl) (by kernel_rfl) (fun _ _ _ h => h) ⟨_, rfl, rfl, Or.inl ⟨by kernel_rfl, ?hy20d⟩⟩ ?_
      case hy20d => (intro w; go_simp); try with_reducible rfl
      refine wpAny_ready (rs := [21]) (by kernel_rfl) (by simp) (AllReady.cons rfl (fun K hK => ?_) AllReady.nil)
      go_simp
      (go_wp2_with (go_at_call 17; go_must (refine (AW.out _ ?_).mono ?_); exact hbz; rintro e wx ⟨rfl, hbx⟩))
      refine take_d 22 (some 109) ?v22d (by kernel_rfl) (by kernel_rfl) (by kernel_rfl) (fun _ _ _ h => h) ⟨_, rfl, rfl, Or.inl ⟨by kernel_rfl, ?hy22d⟩⟩ ?_
      case hy22d => (intro w; go_simp); try with_reducible rfl
      refine take_d 23 (some 6) ?v23d (by kernel_rfl) (by kernel_rfl) (by kernel_rfl) (fun _ _ _ h => h) ⟨_, rfl, rfl, Or.inl ⟨by kernel_rfl, ?hy23d⟩⟩ ?_
      case hy23d => (intro w; go_simp); try with_reducible rfl
      refine wpAny_done (by kernel_rfl) ?_ _
      have HBX := hid (HB1.out.trans ((show Below v1.heap.size v1 _ from hbx).mono HB1.out.size))
      clear hbx
      go_wp2_with fail
      go_ret
      exact ⟨rfl, HBX.out⟩
end Go.Proofs.YthlgdakdjikjhaaDoor
