/-
  The law ClockInside, walked.
-/
import Derived.Test.YthlgdakdjikjhaaDoorSt
import Derived.Test.YthlgdakdjikjhaaDoorForms
import Derived.Test.YthlgdakdjikjhaaDoorBound
import Derived.Deep.RegionHeld3
namespace Go.Proofs.YthlgdakdjikjhaaDoor
open Go.RowKit Go.ChangeMaps
attribute [local go_sem] Oper.semAt_some

set_option maxRecDepth 100000 in
set_option maxHeartbeats 8000000 in
theorem inside_walk (a0 : Option Addr) (len0 cap0 : Nat) (X : List (List Int)) (x1 : Nat → ByteArray) (a2 : Option Addr) (len2 cap2 : Nat) (z2 : List Int) (w : World) (hG : Glob w) (w0 : IsRows w a0 len0 cap0 X) (w1 : ∀ c, (x1 c).size ≤ maxLen) (w2 : IsRow .i64 w a2 len2 cap2 z2) :
    Calls Tryd.prog 9 #[.slice a0 len0 cap0, .agg #[.string (x1 0), .string (x1 1)], .slice a2 len2 cap2] w fun e w' => e = .returned (.bool true) ∧ Below w.heap.size w w' := by
  have hb0 : Below w.heap.size w (w.alloc (.cells #[.string (x1 0), .string (x1 1)] 55)) := (Below.refl _ w).alloc (Nat.le_refl _) _
  have hX := isRows_below w0 hb0
  obtain ⟨rfl, -⟩ := w0
  have TM := hid (tame_any a0 cap0 X _ hX)
  have HB0 := hid hb0
  have q0 : (w.alloc (.cells #[.string (x1 0), .string (x1 1)] 55)).cell? ⟨w.heap.size, 0, none⟩ = some (.string (x1 0)) := (Blk.new w _ _).cell 0
  have q1 : (w.alloc (.cells #[.string (x1 0), .string (x1 1)] 55)).cell? ⟨w.heap.size, 1, none⟩ = some (.string (x1 1)) := (Blk.new w _ _).cell 1
  have hsz : w.heap.size < (w.alloc (.cells #[.string (x1 0), .string (x1 1)] 55)).heap.size := by simp
  have bp := w1 0
  have bq := w1 1
  have HG := hid hG
  have hz2 := w2.bounds
  obtain ⟨k2, e2, n2, c2, m2⟩ := w2.ints
  have hzt : ∀ n ∈ z2.take len2, -9223372036854775808 ≤ n ∧ n ≤ 9223372036854775807 := fun n hn => hz2 n (List.mem_of_mem_take hn)
  obtain ⟨z, hz⟩ : ∃ z, z = z2.take len2 := ⟨_, rfl⟩
  rw [← hz] at k2 e2 hzt
  have HZI := hid k2
  have HZB := hid hzt
  subst e2
  generalize x1 0 = p at *
  generalize x1 1 = q at *
  clear hX hG hb0 w1 hz2 k2 hzt hz w2
  go_enter Tryd.func9, Tryd.ntmps9
  go_wp2_with fail
  refine TM.out.mono ?_
  rintro e v1 ⟨M, a, c, hM, rfl, ht⟩
  obtain ⟨-, hr, -, -⟩ := ht.out.rows
  have hl := intM_length M
  have hbt := ht.out.below
  have q0' := (hbt.cell (p := ⟨w.heap.size, 0, none⟩) hsz).trans q0
  have q1' := (hbt.cell (p := ⟨w.heap.size, 1, none⟩) hsz).trans q1
  have hsz1 : w.heap.size < v1.heap.size := Nat.lt_of_lt_of_le hsz hbt.size
  have HB1 := hid (HB0.out.trans (hbt.mono HB0.out.size))
  have hn9 := hM.n9
  have hn1 := hM.n1
  have hb4 := hM.b4
  have hm1 := hM.b1
  obtain ⟨A, hA⟩ : ∃ A, A = mkWord M.length (p.data.toList.take 60) := ⟨_, rfl⟩
  obtain ⟨B, hB⟩ : ∃ B, B = mkWord M.length (q.data.toList.take 60) := ⟨_, rfl⟩
  have hAa : A.all (letB M.length) = true := by rw [hA]; exact mkWord_all _ _ (by omega) (by omega)
  have hBa : B.all (letB M.length) = true := by rw [hB]; exact mkWord_all _ _ (by omega) (by omega)
  have hAl : A.length ≤ 60 := by rw [hA, mkWord, List.length_map, List.length_take]; omega
  have hBl : B.length ≤ 60 := by rw [hB, mkWord, List.length_map, List.length_take]; omega
  have WD := hid (fun (x : ByteArray) (W : World) (hx : x.size ≤ maxLen) (h0 : W.cell? ⟨w.heap.size, 0, none⟩ = some (.string p)) (h1 : W.cell? ⟨w.heap.size, 1, none⟩ = some (.string q)) (hg : w.heap.size < W.heap.size) =>
    (word_any a M.length c x 60 W hx (by omega) (by omega) (by omega)).mono (R' := fun e w' => e = .returned (.string (mkS (mkWord M.length (x.data.toList.take 60)))) ∧ Below W.heap.size W w' ∧ w'.cell? ⟨w.heap.size, 0, none⟩ = some (.string p) ∧ w'.cell? ⟨w.heap.size, 1, none⟩ = some (.string q) ∧ w.heap.size < w'.heap.size)
      fun e w' h => ⟨h.1, h.2, (h.2.cell (p := ⟨w.heap.size, 0, none⟩) hg).trans h0, (h.2.cell (p := ⟨w.heap.size, 1, none⟩) hg).trans h1, Nat.lt_of_lt_of_le hg h.2.size⟩)
  clear q0 q1 hbt TM
  have ST := hid (fun (W : World) (hb : Below v1.heap.size v1 W) => states_any a c M a2 cap2 z W hM (hr.below hb (Nat.le_refl _)) (HZI.out.below (HB1.out.trans (hb.mono HB1.out.size)) (Nat.le_refl _)) (by omega) HZB.out)
  have RS := hid (fun (W : World) (hb : Below v1.heap.size v1 W) => Reset_yes a c M W hM (hr.below hb (Nat.le_refl _)) (HG.out.next (HB1.out.trans (hb.mono HB1.out.size))))
  have AL := hid (fun (W : World) (hb : Below v1.heap.size v1 W) => refAll_any a c M W hM (hr.below hb (Nat.le_refl _)))
  rw [show 2 ^ nst M - 1 = allS M from rfl] at AL
  have AW := hid (fun (W : World) (hb : Below v1.heap.size v1 W) => awake_any W (HG.out.next (HB1.out.trans (hb.mono HB1.out.size))))
  obtain ⟨L0, hL0⟩ : ∃ L0, L0 = statesL (nst M) z := ⟨_, rfl⟩
  have hs0 : setB (nst M) (castL L0) = true := by rw [hL0]; exact states_set _ _
  have hl0 : L0.length ≤ 9 := by have := states_len (nst M) z; rw [hL0]; omega
  have hne0 : castL L0 ≠ [] := by
    have := states_ne (nst M) z hn1
    rw [hL0]
    intro e
    exact this (List.map_eq_nil_iff.1 e)
  obtain ⟨x0, hx0⟩ : ∃ x0, x0 = numL (castL L0) := ⟨_, rfl⟩
  have hx0l : x0 < 2 ^ nst M := by rw [hx0]; exact (num_lt hs0).1
  have hx0n : x0 ≠ 0 := by rw [hx0]; exact (num_lt hs0).2 hne0
  have hsz0 : sizeN x0 ≤ L0.length := by have := size_num hs0; rw [castL_len] at this; rw [hx0]; exact this
  have hy1l := imgW_lt hM A x0 hx0l
  have hy2l := imgW_lt hM B (imgW M x0 A) hy1l
  have hy1n := imgW_ne hM hAa hx0l hx0n
  have hy15 := lt512 hM hy1l
  have hy25 := lt512 hM hy2l
  have g1 := sizeN_img hM hAa hx0l
  have g2 := sizeN_img hM hBa hy1l
  have g3 := sizeN_pos _ hy15 hy1n
  have gg1 := sizeN_le (imgW M x0 A)
  have hABa : (A ++ B).all (letB M.length) = true := by rw [List.all_append, hAa, hBa]; rfl
  have IM1 := hid (fun (a1 : Option Addr) (c1 : Nat) (W : World) (hb : Below v1.heap.size v1 W) (hI : Ints W a1 (castL L0)) => Image_ok a c M a1 c1 L0 A W hM (hr.below hb (Nat.le_refl _)) hI hl0 hs0 hAa (by omega) (HG.out.next (HB1.out.trans (hb.mono HB1.out.size))))
  have IM2 := hid (fun (a1 : Option Addr) (c1 : Nat) (W : World) (hb : Below v1.heap.size v1 W) (hI : Ints W a1 (castL (listN (imgW M x0 A)))) => Image_ok a c M a1 c1 (listN (imgW M x0 A)) B W hM (hr.below hb (Nat.le_refl _)) hI gg1 (list_set (nst M) (by omega) _ hy15 hy1l) hBa (by omega) (HG.out.next (HB1.out.trans (hb.mono HB1.out.size))))
  have IM3 := hid (fun (a1 : Option Addr) (c1 : Nat) (W : World) (hb : Below v1.heap.size v1 W) (hI : Ints W a1 (castL L0)) => Image_ok a c M a1 c1 L0 (A ++ B) W hM (hr.below hb (Nat.le_refl _)) hI hl0 hs0 hABa (by rw [List.length_append]; omega) (HG.out.next (HB1.out.trans (hb.mono HB1.out.size))))
  rw [← hx0] at IM1 IM3
  rw [imgW_app] at IM3
  rw [list_num _ hy15] at IM2
  have hal := allS_lt hM
  have hal5 : allS M < 512 := lt512 hM hal
  have RL := hid (fun (W : World) => refList_any (allS M) W hal5)
  obtain ⟨rs, rq, re, hrf, hrx⟩ : ∃ (s : List UInt8) (q e : Int), resetV (firstE M (allS M) oneB) = .tuple #[.string (mkS s), .int .i64 q, .int .i64 e] ∧ ((e = 6) ∨ (e = 0 ∧ s.all (letB M.length) = true ∧ s.length ≤ 500 ∧ sizeN (imgW M (allS M) (A ++ s ++ B)) = 1)) := by
    cases hf : firstE M (allS M) oneB with
    | none => exact ⟨[], 0, 6, rfl, .inl rfl⟩
    | some x =>
      obtain ⟨k1, k2, k3, -⟩ := firstE_word hM hal hf
      have k4 := reset_short hM hf
      have k5 := sumB_top (nst M) (by omega)
      refine ⟨x.word, _, 0, rfl, .inr ⟨rfl, k1, ?_, ?_⟩⟩
      · have : ∀ n : Nat, n ≤ 9 → (n * n * n - n) / 6 ≤ 500 := by decide
        have := this (nst M) hn9
        omega
      · have hsA : sizeN (imgW M (allS M) A) ≥ 1 := sizeN_pos _ (lt512 hM (imgW_lt hM A _ hal)) (imgW_ne hM hAa hal (allS_ne hM))
        have e1 : sizeN (imgW M (imgW M (allS M) A) x.word) ≤ sizeN (imgW M (allS M) x.word) := sizeN_sub fun t ht => by
          obtain ⟨r, h1, h2⟩ := (imgW_bit hM _ _ t k1 (imgW_lt hM A _ hal)).1 ht
          exact (imgW_bit hM _ _ t k1 hal).2 ⟨r, (allS_bit r).2 (bit_lt (imgW_lt hM A _ hal) h1), h2⟩
        have e2 : sizeN x.set = 1 := by simpa [oneB] using k3
        rw [k2, e2] at e1
        have hABs : (A ++ x.word ++ B).all (letB M.length) = true := by rw [List.all_append, List.all_append, hAa, hBa, k1]; rfl
        have e3 := sizeN_img hM hBa (imgW_lt hM x.word _ (imgW_lt hM A _ hal))
        have e4 := sizeN_pos _ (lt512 hM (imgW_lt hM (A ++ x.word ++ B) _ hal)) (imgW_ne hM hABs hal (allS_ne hM))
        rw [imgW_app, imgW_app] at e4 ⊢
        omega
  rw [hrf] at RS
  have IM4 := hid (fun (a1 : Option Addr) (c1 : Nat) (W : World) (hb : Below v1.heap.size v1 W) (hI : Ints W a1 (castL (listN (allS M)))) (hsa : rs.all (letB M.length) = true) (hsl : rs.length ≤ 500) => Image_ok a c M a1 c1 (listN (allS M)) (A ++ rs ++ B) W hM (hr.below hb (Nat.le_refl _)) hI (sizeN_le _) (list_set (nst M) (by omega) _ hal5 hal) (by rw [List.all_append, List.all_append, hAa, hBa, hsa]; rfl) (by rw [List.length_append, List.length_append]; omega) (HG.out.next (HB1.out.trans (hb.mono HB1.out.size))))
  rw [list_num _ hal5] at IM4
  have hA2 := hid hA
  have hB2 := hid hB
  rw [← hL0] at ST
  have HRX := hid hrx
  have hABl : (A ++ B).length = A.length + B.length := List.length_append
  clear hA hB hr ht hM hs0 hne0 hx0 hx0l hx0n hy1l hy2l hy1n hy15 hy25 hABa hAa hBa hal hal5 hL0 hrf hrx
  have hge := sizeN_le (imgW M (imgW M x0 A) B)
  unfold sizeN at hsz0 g1 g2 g3 gg1 hge
  generalize imgW M (imgW M x0 A) B = y2 at *
  generalize imgW M x0 A = y1 at *
  go_wp2_with fail
  go_region_held3 (fun w' => w'.cell? ⟨w.heap.size, 0, none⟩ = some (.string p) ∧ w'.cell? ⟨w.heap.size, 1, none⟩ = some (.string q) ∧ w.heap.size < w'.heap.size) (go_keep)
    (first | (go_at_call 38; refine ((WD.out _ _ ?_ ?_ ?_ ?_)).mono ?_; assumption; assumption; assumption; assumption; rintro e w5 ⟨rfl, hb5, s0, s1, s2⟩))
  have h5a := ‹Below v1.drew.heap.size v1.drew _›
  have h5 : Below v1.heap.size v1 w5 := (Below.refl _ v1).drew.trans (h5a.trans (hb5.mono h5a.size))
  have HB5 := hid h5
  rw [← hA2.out, ← hB2.out]
  have hc1 : ¬ 9223372036854775807 < (mkS A).size + (mkS B).size := by rw [mkS_size, mkS_size]; omega
  clear h5 h5a hb5 s0 s1 s2 q0' q1' hsz1 hsz WD
  go_wp2_with fail
  refine (ST.out w5 HB5.out).mono ?_
  rintro e v6 ⟨a6, c6, rfl, ho6, hb6⟩
  have HI6 := hid (show Ints v6 a6 (castL L0) from retN_ints ho6.out)
  have HB6 := hid (HB5.out.trans (hb6.mono HB5.out.size))
  clear ho6 hb6
  go_wp2_with fail
  refine (RS.out v6 HB6.out).mono ?_
  rintro e v7 ⟨rfl, hb7⟩
  have HI7 := hid (HI6.out.below hb7 (Nat.le_refl _))
  have HB7 := hid (HB6.out.trans (hb7.mono HB6.out.size))
  clear hb7 HI6
  go_wp2_with fail
  refine (IM1.out a6 c6 v7 HB7.out HI7.out).mono ?_
  rintro e v8 ⟨a8, c8, rfl, hi8, -, hb8⟩
  have HI8 := hid hi8.out
  have HL8 := hid (HI7.out.below hb8 (Nat.le_refl _))
  have HB8 := hid (HB7.out.trans (hb8.mono HB7.out.size))
  clear hb8 HI7 hi8
  go_wp2_with fail
  refine (IM2.out a8 c8 v8 HB8.out HI8.out).mono ?_
  rintro e v9 ⟨a9, c9, rfl, hi9, -, hb9⟩
  have HI9 := hid hi9.out
  have HL9 := hid (HL8.out.below hb9 (Nat.le_refl _))
  have HB9 := hid (HB8.out.trans (hb9.mono HB8.out.size))
  clear hb9 HL8 HI8 hi9
  go_wp2_with fail
  rw [mkS_append]
  refine (IM3.out a6 c6 v9 HB9.out HL9.out).mono ?_
  rintro e v10 ⟨a10, c10, rfl, hi10, -, hb10⟩
  have HI10 := hid hi10.out
  have HL10 := hid (HI9.out.below hb10 (Nat.le_refl _))
  have HB10 := hid (HB9.out.trans (hb10.mono HB9.out.size))
  clear hb10 HL9 HI9 hi10
  have IE := hid (fun (W : World) (hb : Below v10.heap.size v10 W) => ints_any a9 a10 c9 c10 (castL (listN y2)) (castL (listN y2)) W (HL10.out.below hb (Nat.le_refl _)) (HI10.out.below hb (Nat.le_refl _)) (by rw [castL_len]; omega) |>.mono (R' := fun e w' => e = .returned (.bool true) ∧ Below W.heap.size W w') fun e w' h => ⟨by rw [h.1, decide_eq_true rfl], h.2⟩)
  rw [castL_len] at IE
  obtain ⟨n0, hn0⟩ : ∃ n0, n0 = L0.length := ⟨_, rfl⟩
  have d1 : decide (n0 < (listN y1).length) = false := decide_eq_false (by omega)
  have d2 : decide ((listN y1).length < 1) = false := decide_eq_false (by omega)
  have d2' : decide (((listN y1).length : Int) < 1) = false := decide_eq_false (by omega)
  have d3 : decide ((listN y1).length < (listN y2).length) = false := decide_eq_false (by omega)
  rw [← hn0]
  clear g1 g2 g3 hsz0 hn0
  generalize hm1 : (listN y1).length = n1 at *
  generalize hm2 : (listN y2).length = n2 at *
  clear hm1 hm2
  go_wp2_with fail
  refine (IE.out v10 (Below.refl _ _)).mono ?_
  rintro e v11 ⟨rfl, hb11⟩
  have HB11 := hid (HB10.out.trans (hb11.mono HB10.out.size))
  clear hb11 IE IM1 IM2 IM3 HI10 HL10 ST RS
  rcases HRX.out with rfl | ⟨rfl, ra, rl, r1⟩
  · go_wp2_with fail
    refine (AW.out v11 HB11.out).mono ?_
    rintro e v12 ⟨rfl, hb12⟩
    have HB12 := hid (HB1.out.trans ((HB11.out.trans (hb12.mono HB11.out.size)).mono HB1.out.size))
    clear hb12
    go_wp2_with fail
    go_ret
    exact ⟨rfl, HB12.out⟩
  · have hmx : 1000 ≤ maxLen := by decide
    have hrw := wordB_ok ra (by omega)
    have RW := hid (fun W => (refWord_any a M.length c (mkS rs) W (by rw [mkS_size]; omega) (by omega)).mono (R' := fun e w' => e = .returned (.bool true) ∧ W = w') fun e w' h => ⟨by rw [h.1, mkS_data, hrw], h.2⟩)
    have IM := hid (fun a1 c1 W hb hI => IM4.out a1 c1 W hb hI ra rl)
    obtain ⟨y4, hy4⟩ : ∃ y4, y4 = imgW M (allS M) (A ++ rs ++ B) := ⟨_, rfl⟩
    rw [← hy4] at IM r1
    have hr1 : (listN y4).length = 1 := r1
    rw [hr1] at IM
    have hc2 : ¬ 9223372036854775807 < (mkS A).size + (mkS rs).size := by rw [mkS_size, mkS_size]; omega
    have hc3 : ¬ 9223372036854775807 < (mkS A ++ mkS rs).size + (mkS B).size := by rw [mkS_append, mkS_size, mkS_size, List.length_append]; omega
    have d5 : decide (((mkS rs).size : Int) > 500) = false := decide_eq_false (by rw [mkS_size]; omega)
    have d6 : ¬ (500 : Int) < ((mkS rs).size : Int) := by rw [mkS_size]; omega
    have HR1 := hid hr1
    have HRA := hid ra
    clear hrw r1 hy4 IM4 HRX hr1 ra
    generalize allS M = al at *
    go_wp2_with fail
    refine (RW.out v11).mono ?_
    rintro e v12 ⟨rfl, rfl⟩
    go_wp2_with fail
    refine (AL.out v11 HB11.out).mono ?_
    rintro e v12 ⟨rfl, rfl⟩
    go_wp2_with fail
    refine (RL.out v11).mono ?_
    rintro e v12 ⟨a12, c12, rfl, ho12, hb12⟩
    have HI12 := hid (show Ints v12 a12 (castL (listN al)) from retN_ints ho12.out)
    have HB12 := hid (HB11.out.trans (hb12.mono HB11.out.size))
    clear ho12 hb12
    go_wp2_with fail
    rw [mkS_append, mkS_append]
    refine (IM.out a12 c12 v12 HB12.out HI12.out).mono ?_
    rintro e v13 ⟨a13, c13, rfl, -, -, hb13⟩
    have HB13 := hid (HB12.out.trans (hb13.mono HB12.out.size))
    clear hb13
    go_wp2_with fail
    refine (AW.out v13 HB13.out).mono ?_
    rintro e v14 ⟨rfl, hb14⟩
    have HB14 := hid (HB1.out.trans ((HB13.out.trans (hb14.mono HB13.out.size)).mono HB1.out.size))
    clear hb14
    go_wp2_with fail
    go_ret
    exact ⟨rfl, HB14.out⟩
end Go.Proofs.YthlgdakdjikjhaaDoor
