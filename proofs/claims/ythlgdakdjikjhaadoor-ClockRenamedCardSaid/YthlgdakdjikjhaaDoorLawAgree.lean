/-
  The law ClockAgree, walked.
-/
import Derived.Test.YthlgdakdjikjhaaDoorLawResets
import Derived.Test.YthlgdakdjikjhaaDoorUF
import Derived.StillTailTactics
namespace Go.Proofs.YthlgdakdjikjhaaDoor
open Go.RowKit Go.ChangeMaps
attribute [local go_sem] Oper.semAt_some

theorem size1_pow : ∀ x : Nat, x < 512 → sizeN x = 1 → x = 2 ^ lowN x ∧ lowN x < 9 := by decide +kernel
theorem ltW_len {x y : List UInt8} (h : leW x y) : x.length ≤ y.length := by
  rcases h with h | h | ⟨h, -⟩
  · rw [h]; exact Nat.le_refl _
  · omega
  · omega

set_option maxRecDepth 100000 in
set_option maxHeartbeats 8000000 in
theorem agree_walk (a0 : Option Addr) (len0 cap0 : Nat) (X : List (List Int)) (w : World) (hG : Glob w) (w0 : IsRows w a0 len0 cap0 X) :
    Calls Tryd.prog 15 #[.slice a0 len0 cap0] w fun e w' => e = .returned (.bool true) ∧ Below w.heap.size w w' := by
  have hX := w0
  obtain ⟨rfl, -⟩ := w0
  have TM := hid (tame_any a0 cap0 X _ hX)
  have HG := hid hG
  have hmx : 1000 ≤ maxLen := by decide
  clear hX hG
  go_enter Tryd.func15, Tryd.ntmps15
  go_wp2_with fail
  refine TM.out.mono ?_
  rintro e v1 ⟨M, a, c, hM, rfl, ht⟩
  obtain ⟨-, hr, -, -⟩ := ht.out.rows
  have HB1 := hid ht.out.below
  have hn9 := hM.n9
  have hn1 := hM.n1
  have hb4 := hM.b4
  have hm1 := hM.b1
  obtain ⟨g, o, b1, c1', rfl, hg, q2⟩ := head_at hM hr
  have hR := fun W (hb : Below v1.heap.size v1 W) => hr.below hb (Nat.le_refl _)
  have AW := hid (fun (W : World) (hb : Below v1.heap.size v1 W) => awake_any W (HG.out.next (HB1.out.trans (hb.mono HB1.out.size))))
  have C1 := hid (fun W (hb : Below v1.heap.size v1 W) => Reset_yes (some ⟨g, o, none⟩) c M W hM (hR W hb) (HG.out.next (HB1.out.trans (hb.mono HB1.out.size))))
  have C2 := hid (fun W (hb : Below v1.heap.size v1 W) => Rank_yes (some ⟨g, o, none⟩) c M W hM (hR W hb))
  have C3 := hid (fun W (hb : Below v1.heap.size v1 W) => Apart_yes (some ⟨g, o, none⟩) c M W hM (hR W hb))
  have AL := hid (fun (W : World) (hb : Below v1.heap.size v1 W) => refAll_any (some ⟨g, o, none⟩) c M W hM (hR W hb))
  rw [show 2 ^ nst M - 1 = allS M from rfl] at AL
  have hal := allS_lt hM
  have hal5 := lt512 hM hal
  have IM := hid (fun (u : List UInt8) (W : World) (hb : Below v1.heap.size v1 W) (hu : u.all (letB M.length) = true) (hl : u.length ≤ 1000) => refImage_any (some ⟨g, o, none⟩) c M (allS M) (mkS u) W hM (hR W hb) hal5 (by rw [mkS_size]; omega) hu)
  have RW := hid (fun (u : List UInt8) (W : World) (hu : u.all (letB M.length) = true) (hl : u.length ≤ 1000) => (refWord_any (some ⟨g, o, none⟩) M.length c (mkS u) W (by rw [mkS_size]; omega) (by omega)).mono (R' := fun e w' => e = .returned (.bool true) ∧ W = w') fun e w' h => ⟨by rw [h.1, mkS_data, wordB_ok hu hl], h.2⟩)
  obtain ⟨y, hy, hy1, hy2, hy3, hy4⟩ := rank_some hM
  rw [hy] at C2
  simp only [rankV] at C2
  have tz : ((mkS y.word).toList == (mkS y.word).toList) = true := by simp
  have hy5 := firstE_set hM hal (allS_ne hM) hy
  have hmp := minN_pos hM
  have IMy := hid (fun W hb => IM.out y.word W hb hy2 (by omega))
  rw [mkS_data, hy3] at IMy
  have RWy := hid (fun W => RW.out y.word W hy2 (by omega))
  rcases apart_cases hM with ⟨hap, HM⟩ | ⟨i, j, hap, -, -, HM⟩
  · have hone := (meet_reset hM).1 HM
    have hmin := (rank_one hM).2 hone
    obtain ⟨gt1, gt2, gt3⟩ := grd_of hM HM
    have C4 := hid (fun W (hb : Below v1.heap.size v1 W) => Greedy_yes (some ⟨g, o, none⟩) c M W hM (hR W hb) (HG.out.next (HB1.out.trans (hb.mono HB1.out.size))) HM)
    rw [hmin] at C2 hy hy1
    rw [hasB_one] at hy
    rw [hy] at C1
    simp only [resetV] at C1
    rw [hap] at C3
    simp only [List.length_nil] at C3
    obtain ⟨z, hz, hzl⟩ := firstE_le hM hal (wt := oneB) gt1 (by simp [oneB, gt3])
    rw [hy] at hz
    cases hz
    have hlen := ltW_len hzl
    have hsh := reset_short hM hy
    obtain ⟨hp2, hp9⟩ := size1_pow y.set hy5.2.1 hy1
    have hqn : lowN y.set < nst M := by
      have : y.set.testBit (lowN y.set) = true := by rw [hp2, Nat.testBit_two_pow]; simp [← hp2]
      exact bit_lt ((reach_good hM hal).lt y hy5.1) this
    have IMt := hid (fun W hb => IM.out (grd M) W hb gt1 (by omega))
    rw [mkS_data] at IMt
    have RWt := hid (fun W => RW.out (grd M) W gt1 (by omega))
    have SZt := hid (fun W => refSize_any (imgW M (allS M) (grd M)) W (lt512 hM (imgW_lt hM _ _ hal)))
    rw [gt3] at SZt
    have hsw := pow_wrap (lowN y.set) hp9
    have hswK := pow_wrapK (lowN y.set) hp9
    rw [← hp2] at hsw hswK
    have hsl : (mkS y.word).size ≤ (mkS (grd M)).size := by rw [mkS_size, mkS_size]; exact hlen
    have hsl2 : (mkS y.word).size ≤ (nst M * nst M * nst M - nst M) / 6 := by rw [mkS_size]; exact hsh
    clear hR hM hy hy1 hy2 hy3 hy4 hy5 hmp hone hmin HM hap gt1 gt2 gt3 hzl hlen hsh hp2 hal hal5 hr ht IM RW
    generalize grd M = gw at *
    generalize hia : imgW M (allS M) gw = ia at *
    clear hia
    generalize allS M = al at *
    generalize lowN y.set = lw at *
    generalize nst M = n at *
    go_wp2_with fail
    refine (C1.out v1 (Below.refl _ _)).mono ?_
    rintro e v2 ⟨rfl, hb2⟩
    have B2 := hid hb2
    clear hb2
    go_wp2_with fail
    refine (C3.out v2 B2.out).mono ?_
    rintro e v3 ⟨a4, c4, rfl, ho4, hb4⟩
    have B3 := hid (B2.out.trans (hb4.mono B2.out.size))
    clear hb4 ho4
    go_wp2_with fail
    refine (C2.out v3 B3.out).mono ?_
    rintro e v4 ⟨rfl, hb4⟩
    have B4 := hid (B3.out.trans (hb4.mono B3.out.size))
    clear hb4
    go_wp2_with fail
    refine (C4.out v4 B4.out).mono ?_
    rintro e v5 ⟨rfl, hb5⟩
    have B5 := hid (B4.out.trans (hb5.mono B4.out.size))
    clear hb5
    have k1 : decide ((1 : Int) > (n : Int)) = false := decide_eq_false (by omega)
    have k2 : ¬ ((n : Int) < 1) := by omega
    go_wp2_with fail
    refine (RWy.out v5).mono ?_
    rintro e v6 ⟨rfl, rfl⟩
    go_wp2_with fail
    refine (RWt.out v5).mono ?_
    rintro e v6 ⟨rfl, rfl⟩
    go_wp2_with fail
    refine (AL.out v5 B5.out).mono ?_
    rintro e v6 ⟨rfl, rfl⟩
    go_wp2_with fail
    refine (IMt.out v5 B5.out).mono ?_
    rintro e v6 ⟨rfl, rfl⟩
    go_wp2_with fail
    refine (SZt.out v5).mono ?_
    rintro e v6 ⟨rfl, hb6⟩
    have B6 := hid (B5.out.trans (hb6.mono B5.out.size))
    clear hb6
    go_wp2_with fail
    have ALs := hid (fun W hb => (AL.out W hb).mono (R' := fun e w' => e = .returned (.int .i64 (al : Nat)) ∧ w' = W) fun e w' h => ⟨h.1, h.2.symm⟩)
    have IMs := hid (fun W hb => (IMy.out W hb).mono (R' := fun e w' => e = .returned (.int .i64 (y.set : Nat)) ∧ w' = W) fun e w' h => ⟨h.1, h.2.symm⟩)
    have HNA := hid (And.intro hn1 hn9)
    obtain ⟨ls, hls⟩ : ∃ ls, ls = (mkS y.word).size := ⟨_, rfl⟩
    obtain ⟨lt, hlt⟩ : ∃ lt, lt = (mkS gw).size := ⟨_, rfl⟩
    rw [← hls] at hsl2
    rw [← hls, ← hlt] at hsl
    have hls' : ((mkS y.word).size : Int) = (ls : Int) := by rw [hls]
    have hlt' : ((mkS gw).size : Int) = (lt : Int) := by rw [hlt]
    have HEQ : ((mkS y.word).toList == (mkS y.word).toList) = true := tz
    clear hls hlt
    have g1 : decide ((lt : Int) ≥ (ls : Int)) = true := decide_eq_true (by omega)
    have g2 : decide (ls ≤ lt) = true := decide_eq_true hsl
    obtain ⟨n2, hn2⟩ : ∃ n2, n2 = n * n := ⟨_, rfl⟩
    obtain ⟨n3, hn3⟩ : ∃ n3, n3 = n2 * n := ⟨_, rfl⟩
    rw [← hn2, ← hn3] at hsl2
    have hb2 : n2 ≤ 81 := by rw [hn2]; exact Nat.mul_le_mul hn9 hn9
    have hb3 : n3 ≤ 729 := by rw [hn3]; exact Nat.mul_le_mul hb2 hn9
    have hb3' : n ≤ n3 := by
      rw [hn3, hn2]
      have := Nat.mul_le_mul hn1 hn1
      exact Nat.le_mul_of_pos_left n (by omega)
    have e1 : IntKind.i64.wrap ((n : Int) * (n : Int)) = (n2 : Int) := by
      rw [show (n : Int) * (n : Int) = (n2 : Int) by rw [hn2]; simp]; exact IntWalk.i64_in _ (by omega)
    have e2 : IntKind.i64.wrap ((n2 : Int) * (n : Int)) = (n3 : Int) := by
      rw [show (n2 : Int) * (n : Int) = (n3 : Int) by rw [hn3]; simp]; exact IntWalk.i64_in _ (by omega)
    have e3 : IntKind.i64.wrap ((n3 : Int) - (n : Int)) = ((n3 - n : Nat) : Int) := by
      rw [show (n3 : Int) - (n : Int) = ((n3 - n : Nat) : Int) by omega]; exact IntWalk.i64_in _ (by omega)
    obtain ⟨n4, hn4⟩ : ∃ n4, n4 = n3 - n := ⟨_, rfl⟩
    rw [← hn4] at e3 hsl2
    have hn4b : n4 ≤ 729 := by omega
    have g3 : decide ((ls : Int) ≤ (n4 : Int) / 6) = true := decide_eq_true (by omega)
    have g4 : decide ((ls : Int) ≤ ((n4 : Int)).tdiv 6) = true := by rw [Int.tdiv_eq_ediv_of_nonneg (by omega)]; exact g3
    have HG6 := hid (show (ls : Int) ≤ (n4 : Int) / 6 by omega)
    have g7 : ¬ ((n4 : Int) / 6 < (ls : Int)) := by omega
    have e4 : IntKind.i64.wrap ((n4 : Int).tdiv 6) = (n4 : Int).tdiv 6 := by
      rw [Int.tdiv_eq_ediv_of_nonneg (by omega)]; exact IntWalk.i64_in _ (by omega)
    clear hn2 hn3 hn4 hsl hsl2 hb2 hb3 hb3' hn1 hn9
    refine wp_region_still_tail 34 (by kernel_rfl) (by kernel_rfl) ?_
    simp only [List.take_succ_cons, List.take_zero, List.drop_succ_cons, List.drop_zero]
    repeat still_step
    still_call (ALs.out _ B6.out.drew)
    repeat still_step
    still_call (IMs.out _ B6.out.drew)
    repeat still_step
    refine wpStill_nil ?_
    change wpList _ _ _ _ _ v6.drew
    have B7 := hid B6.out.drew
    generalize v6.drew = v7 at *
    go_wp2_with fail
    refine (AW.out v7 B7.out).mono ?_
    rintro e v11 ⟨rfl, hb11⟩
    have B11 := hid (HB1.out.trans ((B7.out.trans (hb11.mono B7.out.size)).mono HB1.out.size))
    clear hb11
    go_wp2_with fail
    go_ret
    exact ⟨rfl, B11.out⟩
    all_goals (exfalso; have := HG6.out; omega)
  · have hone : firstE M (allS M) oneB = none := by
      cases h : firstE M (allS M) oneB with
      | none => rfl
      | some x => exact absurd ((meet_reset hM).2 (by rw [h]; rfl)) HM
    have hmin : minN M ≠ 1 := fun e => by
      have := (rank_one hM).1 e
      rw [hone] at this; cases this
    rw [hone] at C1
    simp only [resetV] at C1
    have C4 := hid (fun W (hb : Below v1.heap.size v1 W) => Greedy_no (some ⟨g, o, none⟩) c M W hM (hR W hb) (by rw [hap]; exact List.cons_ne_nil _ _))
    have hl2 : (apartL M).length = 2 := by rw [hap]; rfl
    have SZy := hid (fun W => refSize_any y.set W hy5.2.1)
    rw [hy1] at SZy
    rw [hl2] at C3
    clear hR hM hy hy1 hy2 hy3 hy4 hy5 hone HM hap hal hal5 hr ht IM RW hl2
    generalize allS M = al at *
    generalize minN M = rk at *
    generalize nst M = n at *
    have k1 : ((rk : Int) == 1) = false := beq_eq_false_iff_ne.2 (by omega)
    have k2 : decide ((rk : Int) < 1) = false := decide_eq_false (by omega)
    have k3 : decide (n < rk) = false := decide_eq_false (by omega)
    clear hmin
    go_wp2_with fail
    refine (C1.out v1 (Below.refl _ _)).mono ?_
    rintro e v2 ⟨rfl, hb2⟩
    have B2 := hid hb2
    clear hb2
    go_wp2_with fail
    refine (C3.out v2 B2.out).mono ?_
    rintro e v3 ⟨a4, c4, rfl, ho4, hb4⟩
    have B3 := hid (B2.out.trans (hb4.mono B2.out.size))
    clear hb4 ho4
    go_wp2_with fail
    refine (C2.out v3 B3.out).mono ?_
    rintro e v4 ⟨rfl, hb4⟩
    have B4 := hid (B3.out.trans (hb4.mono B3.out.size))
    clear hb4
    go_wp2_with fail
    refine (C4.out v4 B4.out).mono ?_
    rintro e v5 ⟨rfl, hb5⟩
    have B5 := hid (B4.out.trans (hb5.mono B4.out.size))
    clear hb5
    go_wp2_with fail
    refine (RWy.out v5).mono ?_
    rintro e v6 ⟨rfl, rfl⟩
    go_wp2_with fail
    refine (AL.out v5 B5.out).mono ?_
    rintro e v6 ⟨rfl, rfl⟩
    go_wp2_with fail
    refine (IMy.out v5 B5.out).mono ?_
    rintro e v6 ⟨rfl, rfl⟩
    go_wp2_with fail
    refine (SZy.out v5).mono ?_
    rintro e v6 ⟨rfl, hb6⟩
    have B6 := hid (B5.out.trans (hb6.mono B5.out.size))
    clear hb6
    go_wp2_with fail
    refine (AW.out v6 B6.out).mono ?_
    rintro e v11 ⟨rfl, hb11⟩
    have B11 := hid (HB1.out.trans ((B6.out.trans (hb11.mono B6.out.size)).mono HB1.out.size))
    clear hb11
    go_wp2_with fail
    go_ret
    exact ⟨rfl, B11.out⟩
end Go.Proofs.YthlgdakdjikjhaaDoor
