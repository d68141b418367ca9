/-
  The law ClockResets, walked.
-/
import Derived.Test.YthlgdakdjikjhaaDoorUJ
namespace Go.Proofs.YthlgdakdjikjhaaDoor
open Go.RowKit Go.ChangeMaps
attribute [local go_sem] Oper.semAt_some

theorem low_list {x : Nat} (h : x < 512) (h0 : x ≠ 0) : (castL (listN x))[0]? = some (lowN x : Int) ∧ 0 < (listN x).length := by
  have h1 : (listN x).head? = (List.range 9).find? x.testBit := by unfold listN; exact List.head?_filter ..
  have h2 := sizeN_pos x h h0
  have h3 : 0 < (listN x).length := h2
  refine ⟨?_, h3⟩
  cases hl : listN x with
  | nil => rw [hl] at h3; simp at h3
  | cons a r =>
    rw [hl] at h1
    have : lowN x = a := by unfold lowN; rw [← h1]; rfl
    rw [this]; rfl
theorem castL_inj (l : List Nat) : (castL l).map (Value.int .i64) = l.map natV := by
  unfold castL; rw [List.map_map]; rfl

set_option maxRecDepth 100000 in
set_option maxHeartbeats 8000000 in
theorem resets_walk (a0 : Option Addr) (len0 cap0 : Nat) (X : List (List Int)) (w : World) (hG : Glob w) (w0 : IsRows w a0 len0 cap0 X) :
    Calls Tryd.prog 14 #[.slice a0 len0 cap0] w fun e w' => e = .returned (.bool true) ∧ Below w.heap.size w w' := by
  obtain ⟨rfl, hl, -, hr, hl2⟩ := w0
  have HG := hid hG
  have TB := hid (table_any a0 cap0 X w hr hl fun r h => (hl2 r h).1)
  have hTl := tabL_len X
  have hTr := tabL_rows X
  generalize tabL X = T at *
  clear hG hr hl hl2
  go_enter Tryd.func14, Tryd.ntmps14
  go_wp2_with fail
  refine TB.out.mono ?_
  rintro e v1 ⟨a, c, rfl, ht⟩
  have HB1 := hid ht.out.below
  obtain ⟨-, hrt, -, -⟩ := ht.out.rows
  have HRT := hid hrt
  clear hrt ht TB
  have RM := hid (fun W (hb : Below v1.heap.size v1 W) => refMachine_any a c T W (HRT.out.below hb (Nat.le_refl _)) (by omega) (fun r h => by have := hTr r h; omega))
  have AW := hid (fun (W : World) (hb : Below v1.heap.size v1 W) => awake_any W (HG.out.next (HB1.out.trans (hb.mono HB1.out.size))))
  have t0 : (⟨#[]⟩ : ByteArray).toList = [] := by rw [Lib.toList_data]
  have t1 : (⟨#[]⟩ : ByteArray).toList.isEmpty = true := by rw [t0]; rfl
  cases hm : machineB T with
  | false =>
    have C1 := hid (fun W (hb : Below v1.heap.size v1 W) => Reset_no a c T W (HRT.out.below hb (Nat.le_refl _)) (by omega) (fun r h => by have := hTr r h; omega) hm)
    have C2 := hid (fun W (hb : Below v1.heap.size v1 W) => Rank_bad a c T W (HRT.out.below hb (Nat.le_refl _)) (by omega) (fun r h => by have := hTr r h; omega) hm)
    have C3 := hid (fun W (hb : Below v1.heap.size v1 W) => Apart_bad a c T W (HRT.out.below hb (Nat.le_refl _)) (by omega) (fun r h => by have := hTr r h; omega) hm)
    have C4 := hid (fun W (hb : Below v1.heap.size v1 W) => Greedy_bad a c T W (HRT.out.below hb (Nat.le_refl _)) (by omega) (fun r h => by have := hTr r h; omega) hm)
    rw [hm] at RM
    clear hm hTr HRT
    go_wp2_with fail
    refine (C1.out v1 (Below.refl _ _)).mono ?_
    rintro e v2 ⟨rfl, hb2⟩
    have B2 := hid hb2
    clear hb2
    go_wp2_with fail
    refine (C2.out v2 B2.out).mono ?_
    rintro e v3 ⟨rfl, hb3⟩
    have B3 := hid (B2.out.trans (hb3.mono B2.out.size))
    clear hb3
    go_wp2_with fail
    refine (C3.out v3 B3.out).mono ?_
    rintro e v4 ⟨rfl, hb4⟩
    have B4 := hid (B3.out.trans (hb4.mono B3.out.size))
    clear hb4
    go_wp2_with fail
    refine (C4.out v4 B4.out).mono ?_
    rintro e v5 ⟨rfl, hb5⟩
    have B5 := hid (B4.out.trans (hb5.mono B4.out.size))
    clear hb5
    go_wp2_with fail
    refine (RM.out v5 B5.out).mono ?_
    rintro e v6 ⟨rfl, rfl⟩
    go_wp2_with fail
    refine (AW.out v5 B5.out).mono ?_
    rintro e v6 ⟨rfl, hb6⟩
    have B6 := hid (HB1.out.trans ((B5.out.trans (hb6.mono B5.out.size)).mono HB1.out.size))
    clear hb6
    go_wp2_with fail
    go_ret
    exact ⟨rfl, B6.out⟩
  | true =>
    obtain ⟨M, rfl, hM⟩ := machine_ok T hm
    rw [hm, intM_length] at RM
    rw [intM_length]
    have hR := fun W (hb : Below v1.heap.size v1 W) => HRT.out.below hb (Nat.le_refl _)
    have C1 := hid (fun W (hb : Below v1.heap.size v1 W) => Reset_yes a c M W hM (hR W hb) (HG.out.next (HB1.out.trans (hb.mono HB1.out.size))))
    have C2 := hid (fun W (hb : Below v1.heap.size v1 W) => Rank_yes a c M W hM (hR W hb))
    have C3 := hid (fun W (hb : Below v1.heap.size v1 W) => Apart_yes a c M W hM (hR W hb))
    have AL := hid (fun (W : World) (hb : Below v1.heap.size v1 W) => refAll_any a c M W hM (hR W hb))
    rw [show 2 ^ nst M - 1 = allS M from rfl] at AL
    obtain ⟨y, hy, hy1, -, -, -⟩ := rank_some hM
    have SH := hid (fun W (hb : Below v1.heap.size v1 W) => (refShrink_any a c M (allS M) W hM (hR W hb) (allS_lt hM)).mono (R' := fun e w' => e = .returned (.tuple #[.int .i64 (minN M), .string (mkS y.word), .int .i64 y.set]) ∧ Below W.heap.size W w') fun e w' ⟨x, he, hs, hb⟩ => by
      obtain ⟨k1, k2⟩ := hs.out.min hM
      rw [hy] at k2
      cases k2
      rw [hy1] at he
      exact ⟨he, hb⟩)
    rw [hy] at C2
    simp only [rankV] at C2
    have RA := hid (fun W (hb : Below v1.heap.size v1 W) => refApart_any a c M W hM (hR W hb))
    have IE := hid (fun a1 a2 c1 c2 W (h1 : Ints W a1 (castL (apartL M))) (h2 : Ints W a2 (castL (apartL M))) (hl : (apartL M).length ≤ 9) => (ints_any a1 a2 c1 c2 (castL (apartL M)) (castL (apartL M)) W h1 h2 (by rw [castL_len]; omega)).mono (R' := fun e w' => e = .returned (.bool true) ∧ Below W.heap.size W w') fun e w' h => ⟨by rw [h.1, decide_eq_true rfl], h.2⟩)
    rw [castL_len] at IE
    have tz : ((mkS y.word).toList == (mkS y.word).toList) = true := by simp
    have hy5 := firstE_set hM (allS_lt hM) (allS_ne hM) hy
    have hmp := minN_pos hM
    rcases apart_cases hM with ⟨hap, HM⟩ | ⟨i, j, hap, -, -, HM⟩
    · have hone := (meet_reset hM).1 HM
      have hmin := (rank_one hM).2 hone
      rw [hmin] at C2 SH hy
      rw [hasB_one] at hy
      rw [hy] at C1
      simp only [resetV] at C1
      have C4 := hid (fun W (hb : Below v1.heap.size v1 W) => Greedy_yes a c M W hM (hR W hb) (HG.out.next (HB1.out.trans (hb.mono HB1.out.size))) HM)
      have RG := hid (fun W (hb : Below v1.heap.size v1 W) => refGreedy_any a c M W hM (hR W hb) HM)
      have LL := hid (low_list hy5.2.1 hy5.2.2.1)
      have RL := hid (fun (W : World) => refList_any y.set W hy5.2.1)
      rw [hap] at IE C3 RA
      have tg : ((mkS (grd M)).toList == (mkS (grd M)).toList) = true := by simp
      clear hm hTr hTl hR hM hy hy1 hy5 hmp hone hmin HM hap
      generalize grd M = gw at *
      generalize allS M = al at *
      generalize lowN y.set = lw at *
      simp only [List.length_nil] at C3 RA IE
      go_wp2_with fail
      refine (C1.out v1 (Below.refl _ _)).mono ?_
      rintro e v2 ⟨rfl, hb2⟩
      have B2 := hid hb2
      clear hb2
      go_wp2_with fail
      refine (C2.out v2 B2.out).mono ?_
      rintro e v3 ⟨rfl, hb3⟩
      have B3 := hid (B2.out.trans (hb3.mono B2.out.size))
      clear hb3
      go_wp2_with fail
      refine (C3.out v3 B3.out).mono ?_
      rintro e v4 ⟨a4, c4, rfl, ho4, hb4⟩
      have HI4 := hid (show Ints v4 a4 (castL []) from Ints.nil _ _)
      have B4 := hid (B3.out.trans (hb4.mono B3.out.size))
      clear hb4 ho4
      go_wp2_with fail
      refine (C4.out v4 B4.out).mono ?_
      rintro e v5 ⟨rfl, hb5⟩
      have B5 := hid (B4.out.trans (hb5.mono B4.out.size))
      clear hb5
      go_wp2_with fail
      refine (RM.out v5 B5.out).mono ?_
      rintro e v6 ⟨rfl, rfl⟩
      go_wp2_with fail
      refine (AL.out v5 B5.out).mono ?_
      rintro e v6 ⟨rfl, rfl⟩
      go_wp2_with fail
      refine (SH.out v5 B5.out).mono ?_
      rintro e v6 ⟨rfl, hb6⟩
      have B6 := hid (B5.out.trans (hb6.mono B5.out.size))
      clear hb6
      go_wp2_with fail
      refine (RA.out v6 B6.out).mono ?_
      rintro e v7 ⟨a7, c7, rfl, ho7, hb7⟩
      have B7 := hid (B6.out.trans (hb7.mono B6.out.size))
      clear hb7 ho7
      go_wp2_with fail
      refine (IE.out a4 a7 c4 c7 v7 (Ints.nil _ _) (Ints.nil _ _) (by simp)).mono ?_
      rintro e v8 ⟨rfl, hb8⟩
      have B8 := hid (B7.out.trans (hb8.mono B7.out.size))
      clear hb8
      go_wp2_with fail
      refine (RL.out v8).mono ?_
      rintro e v9 ⟨a9, c9, rfl, ho9, hb9⟩
      have hI9 : Ints v9 a9 (castL (listN y.set)) := retN_ints ho9.out
      obtain ⟨g, o, rfl, hg, hcell⟩ := hI9.at (by rw [castL_len]; exact LL.out.2)
      have q9 := hcell 0 _ LL.out.1
      rw [Nat.add_zero] at q9
      have hlp := LL.out.2
      have B9 := hid (B8.out.trans (hb9.mono B8.out.size))
      clear hb9 ho9 hI9 hcell
      generalize (listN y.set).length = n9 at *
      go_wp2_with fail
      refine (RG.out v9 B9.out).mono ?_
      rintro e v10 ⟨rfl, hb10⟩
      have B10 := hid (B9.out.trans (hb10.mono B9.out.size))
      clear hb10
      go_wp2_with fail
      refine (AW.out v10 B10.out).mono ?_
      rintro e v11 ⟨rfl, hb11⟩
      have B11 := hid (HB1.out.trans ((B10.out.trans (hb11.mono B10.out.size)).mono HB1.out.size))
      clear hb11
      go_wp2_with fail
      go_ret
      exact ⟨rfl, B11.out⟩
    · have hone : firstE M (allS M) oneB = none := by
        cases h : firstE M (allS M) oneB with
        | none => rfl
        | some x => exact absurd ((meet_reset hM).2 (by rw [h]; rfl)) HM
      have hmin : minN M ≠ 1 := fun e => by
        have := (rank_one hM).1 e
        rw [hone] at this; cases this
      rw [hone] at C1
      simp only [resetV] at C1
      have C4 := hid (fun W (hb : Below v1.heap.size v1 W) => Greedy_no a c M W hM (hR W hb) (by rw [hap]; exact List.cons_ne_nil _ _))
      have hl2 : (apartL M).length = 2 := by rw [hap]; rfl
      have d1 : decide ((minN M : Int) > 1) = true := decide_eq_true (by omega)
      have d2 : decide (1 < minN M) = true := decide_eq_true (by omega)
      clear hm hTr hTl hR hM hy hy1 hy5 hmp hone hmin HM hap
      generalize allS M = al at *
      generalize minN M = rk at *
      generalize hL : apartL M = L at *
      clear hL
      have HL2 := hid hl2
      clear hl2
      go_wp2_with fail
      refine (C1.out v1 (Below.refl _ _)).mono ?_
      rintro e v2 ⟨rfl, hb2⟩
      have B2 := hid hb2
      clear hb2
      go_wp2_with fail
      refine (C2.out v2 B2.out).mono ?_
      rintro e v3 ⟨rfl, hb3⟩
      have B3 := hid (B2.out.trans (hb3.mono B2.out.size))
      clear hb3
      go_wp2_with fail
      refine (C3.out v3 B3.out).mono ?_
      rintro e v4 ⟨a4, c4, rfl, ho4, hb4⟩
      have HI4 := hid (show Ints v4 a4 (castL L) from by unfold Ints; rw [castL_inj]; exact (own_vals ho4.out).1)
      have B4 := hid (B3.out.trans (hb4.mono B3.out.size))
      clear hb4 ho4
      go_wp2_with fail
      refine (C4.out v4 B4.out).mono ?_
      rintro e v5 ⟨rfl, hb5⟩
      have HI5 := hid (HI4.out.below hb5 (Nat.le_refl _))
      have B5 := hid (B4.out.trans (hb5.mono B4.out.size))
      clear hb5
      go_wp2_with fail
      refine (RM.out v5 B5.out).mono ?_
      rintro e v6 ⟨rfl, rfl⟩
      go_wp2_with fail
      refine (AL.out v5 B5.out).mono ?_
      rintro e v6 ⟨rfl, rfl⟩
      go_wp2_with fail
      refine (SH.out v5 B5.out).mono ?_
      rintro e v6 ⟨rfl, hb6⟩
      have HI6 := hid (HI5.out.below hb6 (Nat.le_refl _))
      have B6 := hid (B5.out.trans (hb6.mono B5.out.size))
      clear hb6
      go_wp2_with fail
      refine (RA.out v6 B6.out).mono ?_
      rintro e v7 ⟨a7, c7, rfl, ho7, hb7⟩
      have HI7 := hid (HI6.out.below hb7 (Nat.le_refl _))
      have HJ7 := hid (show Ints v7 a7 (castL L) from by unfold Ints; rw [castL_inj]; exact (own_vals ho7.out).1)
      have B7 := hid (B6.out.trans (hb7.mono B6.out.size))
      clear hb7 ho7
      go_wp2_with fail
      refine (IE.out a4 a7 c4 c7 v7 HI7.out HJ7.out (by rw [HL2.out]; omega)).mono ?_
      rintro e v8 ⟨rfl, hb8⟩
      have B8 := hid (B7.out.trans (hb8.mono B7.out.size))
      clear hb8
      go_wp2_with fail
      refine (AW.out v8 B8.out).mono ?_
      rintro e v11 ⟨rfl, hb11⟩
      have B11 := hid (HB1.out.trans ((B8.out.trans (hb11.mono B8.out.size)).mono HB1.out.size))
      clear hb11
      go_wp2_with fail
      go_ret
      exact ⟨rfl, B11.out⟩
end Go.Proofs.YthlgdakdjikjhaaDoor
