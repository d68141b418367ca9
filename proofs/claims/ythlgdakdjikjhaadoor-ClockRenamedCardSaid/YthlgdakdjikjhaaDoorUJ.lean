/-
  Texts merged: Gt, Gu.
-/
import Derived.Test.YthlgdakdjikjhaaDoorUI
import Derived.Test.YthlgdakdjikjhaaDoorUH
import Derived.Deep.RegionHeld3
/-
  Walks: Greedy, Apart and Rank, where there is no answer; the reference's Apart and Greedy.
-/
namespace Go.Proofs.YthlgdakdjikjhaaDoor
open Go.RowKit Go.ChangeMaps
attribute [local go_sem] Oper.semAt_some

set_option maxRecDepth 100000 in
set_option maxHeartbeats 4000000 in
theorem Greedy_no (a : Option Addr) (c : Nat) (M : List (List Nat)) (w : World) (hM : OkM M) (hr : RowsAt w a (intM M)) (hne : apartL M ≠ []) :
    Calls Tryd.prog 46 #[.slice a M.length c] w fun e w' => e = .returned (.tuple #[.string ⟨#[]⟩, .int .i64 6]) ∧ Below w.heap.size w w' := by
  have IS := hid (isM_yes a c M w hM hr)
  have AP := hid (fun (W : World) (hb : Below w.heap.size w W) => apart_any a c M W hM (hr.below hb (Nat.le_refl _)))
  have hl : 0 < (apartL M).length := List.length_pos_iff.2 hne
  clear hM hr hne
  generalize apartL M = L at *
  go_enter Tryd.func46, Tryd.ntmps46
  go_wp2_with fail
  refine IS.out.mono ?_
  rintro e w1 ⟨rfl, hb1⟩
  go_wp2_with fail
  refine (AP.out w1 hb1).mono ?_
  rintro e w2 ⟨a2, c2, rfl, ho, hb2⟩
  obtain ⟨g, o, rfl, -⟩ := own_natV ho.out hl
  have B2 := hid (hb1.trans (hb2.mono hb1.size))
  clear hb1 hb2 ho
  go_wp2_with fail
  refine bodyPost_ret (results_tmp2 rfl _ _ _) rfl ?_
  exact ⟨rfl, B2.out⟩
set_option maxHeartbeats 4000000 in
theorem Greedy_bad (a : Option Addr) (c : Nat) (X : List (List Int)) (w : World) (hr : RowsAt w a X) (hl : X.length ≤ 1000) (hl2 : ∀ r ∈ X, r.length ≤ 1000) (hm : machineB X = false) :
    Calls Tryd.prog 46 #[.slice a X.length c] w fun e w' => e = .returned (.tuple #[.string ⟨#[]⟩, .int .i64 2]) ∧ Below w.heap.size w w' := by
  have HW := hid (isMachine_any a c X w hr hl hl2)
  rw [hm] at HW
  clear hm hr hl2
  go_enter Tryd.func46, Tryd.ntmps46
  go_wp2_with fail
  refine HW.out.mono ?_
  rintro e w1 ⟨rfl, hb1⟩
  go_wp2_with fail
  refine bodyPost_ret (results_tmp2 rfl _ _ _) rfl ?_
  exact ⟨rfl, hb1⟩
set_option maxHeartbeats 4000000 in
theorem Apart_bad (a : Option Addr) (c : Nat) (X : List (List Int)) (w : World) (hr : RowsAt w a X) (hl : X.length ≤ 1000) (hl2 : ∀ r ∈ X, r.length ≤ 1000) (hm : machineB X = false) :
    Calls Tryd.prog 41 #[.slice a X.length c] w fun e w' => e = .returned (.tuple #[.slice none 0 0, .int .i64 2]) ∧ Below w.heap.size w w' := by
  have HW := hid (isMachine_any a c X w hr hl hl2)
  rw [hm] at HW
  clear hm hr hl2
  go_enter Tryd.func41, Tryd.ntmps41
  go_wp2_with fail
  refine HW.out.mono ?_
  rintro e w1 ⟨rfl, hb1⟩
  go_wp2_with fail
  refine bodyPost_ret (results_tmp2 rfl _ _ _) rfl ?_
  exact ⟨rfl, hb1⟩
set_option maxHeartbeats 4000000 in
theorem Rank_bad (a : Option Addr) (c : Nat) (X : List (List Int)) (w : World) (hr : RowsAt w a X) (hl : X.length ≤ 1000) (hl2 : ∀ r ∈ X, r.length ≤ 1000) (hm : machineB X = false) :
    Calls Tryd.prog 45 #[.slice a X.length c] w fun e w' => e = .returned (.tuple #[.int .i64 0, .string ⟨#[]⟩, .int .i64 2]) ∧ Below w.heap.size w w' := by
  have HW := hid (isMachine_any a c X w hr hl hl2)
  rw [hm] at HW
  clear hm hr hl2
  go_enter Tryd.func45, Tryd.ntmps45
  go_wp2_with fail
  refine HW.out.mono ?_
  rintro e w1 ⟨rfl, hb1⟩
  go_wp2_with fail
  refine bodyPost_ret (results_tmp3 rfl _ _ _) rfl ?_
  exact ⟨rfl, hb1⟩

set_option maxRecDepth 100000 in
set_option maxHeartbeats 8000000 in
theorem refApart_any (a : Option Addr) (c : Nat) (M : List (List Nat)) (w : World) (hM : OkM M) (hr : RowsAt w a (intM M)) :
    Calls Tryd.prog 48 #[.slice a M.length c] w (RetN (apartL M) w) := by
  have h1 := hM.b1
  obtain ⟨g, o, b1, c1, rfl, hg, q1⟩ := head_at hM hr
  have hn9 := hM.n9
  have HS := hid (fun (p q : Nat) (hp : p < nst M) (hq : q < nst M) (W : World) (hb : Below w.heap.size w W) => refMerge_any (some ⟨g, o, none⟩) c M p q W hM (hr.below hb (Nat.le_refl _)) hp hq)
  have HAP := hid (show apartL M = apO M (nst M) 0 from rfl)
  have HO := hid (show ∀ k p, apO M (k + 1) p = match apI M p (nst M - (p + 1)) (p + 1) with | some q => [p, q] | none => apO M k (p + 1) from fun _ _ => rfl)
  clear hM hr
  generalize nst M = n at *
  go_enter Tryd.func48, Tryd.ntmps48
  go_wp2_with fail
  go_loopw [3] (fun pv W => ∃ p : Nat, pv = .int .i64 p ∧ p ≤ n ∧ Below w.heap.size w W ∧ Hid (apartL M = apO M (n - p) p)) (fun pv _ => n - (intOf pv).toNat)
  case atStart => exact ⟨0, rfl, by omega, Below.refl _ _, HAP⟩
  case round =>
    obtain ⟨p, rfl, hp, hB, HL⟩ := hrel
    have q0 := (hB.cell (p := ⟨g, o, none⟩) hg).trans q1
    by_cases hlt : p < n
    · go_wp2_with fail
      go_loopw [4] (fun qv W => ∃ q : Nat, qv = .int .i64 q ∧ p + 1 ≤ q ∧ q ≤ n ∧ Below w.heap.size w W ∧ Hid (apI M p (n - (p + 1)) (p + 1) = apI M p (n - q) q)) (fun qv _ => n - (intOf qv).toNat)
      case atStart => exact ⟨p + 1, by go_num, by omega, by omega, hB, rfl⟩
      case round =>
        obtain ⟨q, rfl, hq1, hq, hB2, HI⟩ := hrel
        have q2 := (hB2.cell (p := ⟨g, o, none⟩) hg).trans q1
        by_cases hlq : q < n
        · have C1 := hid (HS.out p q hlt hlq wr hB2)
          have HB2 := hid hB2
          cases hf : firstE M (pairN p q) oneB with
          | none =>
            rw [hf] at C1
            have hfin : apartL M = [p, q] := by
              have hi : apI M p (n - (p + 1)) (p + 1) = some q := by
                rw [HI.out, show n - q = (n - (q + 1)) + 1 by omega, apI, hf]; rfl
              rw [HL.out, show n - p = (n - (p + 1)) + 1 by omega, HO.out, hi]
            have HF := hid hfin
            clear hf hfin HI HL HO hB2
            go_wp2_with fail
            refine C1.out.mono ?_
            rintro e w1 ⟨u, rfl, -, hb1⟩
            have HB3 := hid (HB2.out.trans (hb1.mono HB2.out.size))
            clear hb1 C1
            go_wp2_with fail
            go_ret
            have h1 := HB3.out
            refine ⟨some ⟨w1.heap.size, 0, none⟩, 2, by rw [HF.out]; rfl, ?_, h1.alloc h1.size _⟩
            rw [HF.out]
            exact ⟨rfl, .inr ⟨w1.heap.size, 2, #[.int .i64 (p : Int), .int .i64 (q : Int)], rfl, h1.size, Blk.new w1 _ _, Nat.le_refl _, by decide, rfl, rfl⟩⟩
          | some x =>
            rw [hf] at C1
            have hfin : apI M p (n - (p + 1)) (p + 1) = apI M p (n - (q + 1)) (q + 1) := by
              rw [HI.out, show n - q = (n - (q + 1)) + 1 by omega, apI, hf]; rfl
            have HF := hid hfin
            clear hf hfin HI hB2
            go_wp2_with fail
            refine C1.out.mono ?_
            rintro e w1 ⟨u, rfl, -, hb1⟩
            have HB3 := hid (HB2.out.trans (hb1.mono HB2.out.size))
            clear hb1 C1
            go_wp2_with fail
            exact ⟨⟨q + 1, by go_num, by omega, by omega, HB3.out, HF⟩, by simp [intOf]; omega⟩
        · have hqn : q = n := by omega
          have hfin : apartL M = apO M (n - (p + 1)) (p + 1) := by
            have hi : apI M p (n - (p + 1)) (p + 1) = none := by
              rw [HI.out, show n - q = 0 by omega]; rfl
            rw [HL.out, show n - p = (n - (p + 1)) + 1 by omega, HO.out, hi]
          have HF := hid hfin
          clear hfin HI HL hqn
          go_wp2_with fail
          exact ⟨⟨p + 1, by go_num, by omega, hB2, HF⟩, by simp [intOf]; omega⟩
    · have hfin : apartL M = [] := by rw [HL.out, show n - p = 0 by omega]; rfl
      have HF := hid hfin
      clear hfin HL
      go_wp2_with fail
      go_ret
      exact ⟨none, 0, by rw [HF.out]; rfl, by rw [HF.out]; exact World.ownsRow_nil _ _ _ _, hB⟩
end Go.Proofs.YthlgdakdjikjhaaDoor
/-
  Walks: the reference's Greedy.
-/
namespace Go.Proofs.YthlgdakdjikjhaaDoor
open Go.RowKit Go.ChangeMaps
attribute [local go_sem] Oper.semAt_some

set_option maxRecDepth 100000 in
set_option maxHeartbeats 8000000 in
theorem refGreedy_any (a : Option Addr) (c : Nat) (M : List (List Nat)) (w : World) (hM : OkM M) (hr : RowsAt w a (intM M)) (H : AllMeet M) :
    Calls Tryd.prog 49 #[.slice a M.length c] w fun e w' => e = .returned (.string (mkS (grd M))) ∧ Below w.heap.size w w' := by
  have hn9 := hM.n9
  have hb4 := hM.b4
  have hmx : 44 ≤ maxLen := by decide
  have AL := hid (fun (W : World) (hb : Below w.heap.size w W) => refAll_any a c M W hM (hr.below hb (Nat.le_refl _)))
  rw [show 2 ^ nst M - 1 = allS M from rfl] at AL
  have SZ := hid (fun (s : Nat) (W : World) (hs : s < 512) => refSize_any s W hs)
  have LI := hid (fun (s : Nat) (W : World) (hs : s < 512) => refList_any s W hs)
  have SE := hid (fun (p q : Nat) (W : World) (hb : Below w.heap.size w W) (hp : p < nst M) (hq : q < nst M) => show (wordP M p q).length ≤ 44 ∧ Hid (Calls Tryd.prog 25 #[.slice a M.length c, .int .i64 p, .int .i64 q] W fun e w' => e = .returned (.tuple #[.string (mkS (wordP M p q)), .bool true]) ∧ Below W.heap.size W w') by
    obtain ⟨x, h1, h2, -, h4, -⟩ := wordP_of hM H hp hq
    refine ⟨by rw [h2]; exact h4, (refMerge_any a c M p q W hM (hr.below hb (Nat.le_refl _)) hp hq).mono ?_⟩
    rintro e w' ⟨wd, rfl, hw, hb'⟩
    rw [h1, hw.out x h1, h2]
    exact ⟨rfl, hb'⟩)
  have IM := hid (fun (s : Nat) (u : List UInt8) (W : World) (hb : Below w.heap.size w W) (hs : s < 512) (hu : u.all (letB M.length) = true) (hul : u.length ≤ 44) => refImage_any a c M s (mkS u) W hM (hr.below hb (Nat.le_refl _)) hs (by rw [mkS_size]; omega) hu)
  have hal := allS_lt hM
  have han := allS_ne hM
  have HF := hid (fun (s : Nat) (hs : s < 2 ^ nst M) => lt512 hM hs)
  have HBE := hid (fun (s : Nat) (hs : s < 2 ^ nst M) (h1 : 1 < sizeN s) => best_of hM H hs h1)
  have HIM := hid (fun (s : Nat) (l : List UInt8) (hs : s < 2 ^ nst M) => imgW_lt hM l s hs)
  have HIN := hid (fun (s : Nat) (l : List UInt8) (hl : l.all (letB M.length) = true) (hs : s < 2 ^ nst M) (h0 : s ≠ 0) => imgW_ne hM hl hs h0)
  have HLB := hid (fun (s : Nat) (hs : s < 2 ^ nst M) (i q : Nat) (h : (listN s)[i]? = some q) => bit_lt hs ((listN_bit hM hs q).1 (List.mem_of_getElem? h)))
  have hst : sizeN (allS M) ≤ 9 := sizeN_le _
  have HST := hid (show grdF M 9 (allS M) [] = grd M from rfl)
  clear hM hr H
  generalize allS M = al at *
  generalize nst M = n at *
  go_enter Tryd.func49, Tryd.ntmps49
  go_wp2_with fail
  refine (AL.out w (Below.refl _ _)).mono ?_
  rintro e w3 ⟨rfl, rfl⟩
  go_wp2_with fail
  go_loopw [3, 4] (fun sv ov W => ∃ (s f : Nat) (out : List UInt8), sv = .int .i64 s ∧ ov = .string (mkS out) ∧ s < 2 ^ n ∧ s ≠ 0 ∧ f ≤ 9 ∧ sizeN s ≤ f + 1 ∧ out.length ≤ 44 * (9 - f) ∧ Hid (grdF M f s out = grd M) ∧ Below w.heap.size w W) (fun sv _ _ => sizeN (intOf sv).toNat)
  case atStart => exact ⟨al, 9, [], rfl, rfl, hal, han, by omega, by omega, by simp, HST, Below.refl _ _⟩
  case round =>
    obtain ⟨s, f, out, rfl, rfl, hs, h0, hf9, hsf, hol, HGR, hB⟩ := hrel
    have hs5 := HF.out s hs
    have HB := hid hB
    have HH0 := hid h0
    clear hB h0
    have SZ1 := SZ.out s wr hs5
    by_cases h1 : 1 < sizeN s
    · obtain ⟨f', rfl⟩ : ∃ f', f = f' + 1 := ⟨f - 1, by omega⟩
      obtain ⟨be1, be2, be3⟩ := HBE.out s hs h1
      have BE1 := hid be1
      have LI1 := hid (fun (W : World) => LI.out s W hs5)
      have hlb := HLB.out s hs
      have HGR2 := hid (show grdF M f' (imgW M s (bstO M (listN s) (sizeN s))) (out ++ bstO M (listN s) (sizeN s)) = grd M by rw [← HGR.out, grdF, if_pos h1])
      have hk : sizeN s = (listN s).length := rfl
      have hIL := HIM.out s (bstO M (listN s) (sizeN s)) hs
      have hIN := hid (HIN.out s _ be1 hs HH0.out)
      have IM1 := hid (fun (W : World) (hb : Below w.heap.size w W) => IM.out s _ W hb hs5 be1 be2)
      rw [mkS_data] at IM1
      have hk9 := sizeN_le s
      obtain ⟨L, hL⟩ : ∃ L, L = listN s := ⟨_, rfl⟩
      obtain ⟨k, hkk⟩ : ∃ k, k = sizeN s := ⟨_, rfl⟩
      rw [← hL, ← hkk] at be3 hIL hIN HGR2 BE1 be2 IM1
      rw [← hL] at LI1 hlb hk
      rw [← hkk] at hk hk9 hsf h1 SZ1
      have SZ1 := hid SZ1
      have HLB1 := hid hlb
      have HKK := hid hkk
      have HK := hid hk
      have d0 : decide (1 < k) = true := decide_eq_true h1
      have d0' : decide ((k : Int) > 1) = true := decide_eq_true (by omega)
      clear hL hkk be1 hlb HGR hk
      go_wp2_with fail
      refine SZ1.out.mono ?_
      rintro e w4 ⟨rfl, hb4'⟩
      have HB4 := hid (HB.out.trans (hb4'.mono HB.out.size))
      clear hb4'
      go_wp2_with fail
      refine (LI1.out w4).mono ?_
      rintro e w5 ⟨a5, c5, rfl, ho5, hb5⟩
      rw [← HK.out] at ho5 ⊢
      obtain ⟨g, o, rfl, hg5, hcell, hc5⟩ := own_natV (L := L) (by rw [← HK.out]; exact ho5.out) (by rw [← HK.out]; omega)
      rw [← HK.out] at hc5
      have HC5 := hid hcell
      have HB5 := hid (HB4.out.trans (hb5.mono HB4.out.size))
      clear ho5 hb5 hcell
      go_wp2_with fail
      go_loopw [6, 7] (fun bv jv W => ∃ (j : Nat) (b : List UInt8), j ≤ k ∧ jv = .int .i64 j ∧ bv = .string (mkS b) ∧ b.length ≤ 44 ∧ Hid (b = bstO M L j) ∧ Below w5.heap.size w5 W) (fun _ jv _ => k - (intOf jv).toNat)
      case atStart => exact ⟨0, [], by omega, rfl, rfl, by simp, rfl, Below.refl _ _⟩
      case round =>
        obtain ⟨j, b, hj, rfl, rfl, hbl, HBJ, hBW⟩ := hrel
        have HBW := hid hBW
        clear hBW
        by_cases hjk : j < k
        · obtain ⟨q, hq, -⟩ := list_drop_cons L j (by rw [← HK.out]; exact hjk)
          have hqn := HLB1.out j q hq
          have HQC := hid (HC5.out j q hq)
          have HQ := hid hq
          clear hq
          go_wp2_with fail
          go_loopw [6, 8] (fun bv iv W => ∃ (i : Nat) (b : List UInt8), i ≤ j ∧ iv = .int .i64 i ∧ bv = .string (mkS b) ∧ b.length ≤ 44 ∧ Hid (b = bstI M L q i (bstO M L j)) ∧ Below w5.heap.size w5 W) (fun _ iv _ => j - (intOf iv).toNat)
          case atStart => exact ⟨0, b, by omega, rfl, rfl, hbl, HBJ, HBW.out⟩
          case round =>
            obtain ⟨i, b2, hi, rfl, rfl, hbl2, HBI, hBW2⟩ := hrel
            have HBW2 := hid hBW2
            have HBX := hid (HB5.out.trans (hBW2.mono HB5.out.size))
            clear hBW2
            by_cases hij : i < j
            · obtain ⟨p, hp, -⟩ := list_drop_cons L i (by rw [← HK.out]; omega)
              have hpn := HLB1.out i p hp
              have q7 := (HBW2.out.cell (p := ⟨g, o + j, none⟩) hg5).trans HQC.out
              have q8 := (HBW2.out.cell (p := ⟨g, o + i, none⟩) hg5).trans (HC5.out i p hp)
              have hnx := bstI_succ M L q i (bstO M L j) hp
              rw [← HBI.out] at hnx
              obtain ⟨hx2, C1⟩ := SE.out p q wr.drew HBX.out.drew hpn hqn
              have HNX := hid hnx
              have hxl := bet_len hx2 hbl2
              clear hp hnx
              obtain ⟨u, hu⟩ : ∃ u, u = wordP M p q := ⟨_, rfl⟩
              rw [← hu] at C1 HNX hx2 hxl
              clear hu
              have hgg : g < wr.drew.heap.size := Nat.lt_of_lt_of_le hg5 HBW2.out.drew.size
              have C1 := hid (C1.out.mono (R' := fun e w' => e = .returned (.tuple #[.string (mkS u), .bool true]) ∧ Below wr.drew.heap.size wr.drew w' ∧ w'.cell? ⟨g, o + j, none⟩ = some (.int .i64 (q : Int)) ∧ w'.cell? ⟨g, o + i, none⟩ = some (.int .i64 (p : Int))) fun e w' h => ⟨h.1, h.2, (h.2.cell (p := ⟨g, o + j, none⟩) hgg).trans q7, (h.2.cell (p := ⟨g, o + i, none⟩) hgg).trans q8⟩)
              have bi0 : (0 : Int) ≤ (i : Int) := by omega
              have bi1 : (i : Int) < (k : Int) := by omega
              have bj0 : (0 : Int) ≤ (j : Int) := by omega
              have bj1 : (j : Int) < (k : Int) := by omega
              go_wp2_with fail
              go_region_held3 (fun W' => W'.cell? ⟨g, o + j, none⟩ = some (.int .i64 (q : Int)) ∧ W'.cell? ⟨g, o + i, none⟩ = some (.int .i64 (p : Int))) (go_keep)
                (first | (go_at_call 25; (refine C1.out.mono ?_); rintro e w8 ⟨rfl, hb8, s7, s8⟩))
              have h8a := ‹Below wr.drew.heap.size wr.drew _›
              have h8 := HBW2.out.drew.trans (h8a.mono HBW2.out.drew.size)
              have HB8 := hid h8
              clear h8 hb8 C1 h8a bi0 bi1 bj0 bj1 s7 s8
              by_cases hb0 : b2 = []
              · subst hb0
                have HN := hid (show u = bstI M L q (i + 1) (bstO M L j) by rw [HNX.out]; rfl)
                have t1 : (mkS ([] : List UInt8)).toList = [] := by rw [Lib.toList_data]; rfl
                have t2 : (mkS ([] : List UInt8)).toList.isEmpty = true := by rw [t1]; rfl
                clear HNX hbl2 HBI
                go_wp2_with fail
                exact ⟨⟨i + 1, u, by omega, by go_num, rfl, hx2, HN, HB8.out⟩, by simp [intOf]; omega⟩
              · have t1 : (mkS b2).toList ≠ [] := by rw [Lib.toList_data]; exact hb0
                have t2 : (mkS b2).toList.isEmpty = false := by rw [Lib.toList_data]; cases b2 with | nil => exact absurd rfl hb0 | cons => rfl
                have t3 : ((mkS b2).toList == []) = false := beq_eq_false_iff_ne.2 t1
                have CB := hid (fun (W : World) => before_any (mkS u) (mkS b2) W)
                rw [mkS_data, mkS_data] at CB
                have HB0 := hid hb0
                clear hb0 t1
                by_cases hlt : ltW u b2
                · rw [decide_eq_true hlt] at CB
                  have HN := hid (show u = bstI M L q (i + 1) (bstO M L j) by rw [HNX.out]; unfold bet betB; rw [decide_eq_true hlt, Bool.or_true]; rfl)
                  clear hlt HNX HBI
                  go_wp2_with fail
                  refine (CB.out _).mono ?_
                  rintro e w9 ⟨rfl, rfl⟩
                  go_wp2_with fail
                  exact ⟨⟨i + 1, u, by omega, by go_num, rfl, hx2, HN, HB8.out⟩, by simp [intOf]; omega⟩
                · rw [decide_eq_false hlt] at CB
                  have HN := hid (show b2 = bstI M L q (i + 1) (bstO M L j) by
                    rw [HNX.out]; unfold bet betB
                    rw [decide_eq_false hlt, Bool.or_false]
                    cases b2 with | nil => exact absurd rfl HB0.out | cons => rfl)
                  clear hlt HNX HBI
                  go_wp2_with fail
                  refine (CB.out _).mono ?_
                  rintro e w9 ⟨rfl, rfl⟩
                  go_wp2_with fail
                  exact ⟨⟨i + 1, b2, by omega, by go_num, rfl, hbl2, HN, HB8.out⟩, by simp [intOf]; omega⟩
            · have hie : i = j := by omega
              subst hie
              have HN := hid (show b2 = bstO M L (i + 1) by rw [bstO_succ M L i HQ.out]; exact HBI.out)
              clear HBI
              go_wp2_with fail
              exact ⟨⟨i + 1, b2, by omega, by go_num, rfl, hbl2, HN, HBW2.out⟩, by simp [intOf]; omega⟩
        · have hjk2 : j = k := by omega
          have HBJ2 := hid (show b = bstO M L k by rw [← hjk2]; exact HBJ.out)
          rw [← HBJ2.out] at be3 hIL hIN HGR2 IM1
          have HBX := hid (HB5.out.trans (HBW.out.mono HB5.out.size))
          have IM2 := hid (IM1.out wr HBX.out)
          have d8 : decide (j < k) = false := decide_eq_false hjk
          have HOL := hid (show (out ++ b).length ≤ 44 * (9 - f') by rw [List.length_append]; omega)
          have hcc : ¬ 9223372036854775807 < (mkS out).size + (mkS b).size := by rw [mkS_size, mkS_size]; omega
          have HE3 := hid be3
          clear hjk2 HBJ be3
          obtain ⟨t, ht⟩ : ∃ t, t = imgW M s b := ⟨_, rfl⟩
          rw [← ht] at IM2 hIL hIN HGR2 HE3
          clear ht
          go_wp2_with fail
          refine IM2.out.mono ?_
          rintro e w10 ⟨rfl, rfl⟩
          go_wp2_with fail
          rw [mkS_append]
          have hE3 := HE3.out
          have hk2 := HKK.out
          exact ⟨⟨t, f', out ++ b, rfl, rfl, hIL, hIN.out, by omega, by omega, HOL.out, HGR2, HBX.out⟩, by simp [intOf]; omega⟩
    · have SZ1 := hid SZ1
      have hfin : grd M = out := by rw [← HGR.out, grdF_end h1]
      have HFN := hid hfin
      have d0' : decide ((sizeN s : Int) > 1) = false := decide_eq_false (by omega)
      have d0 : decide (1 < sizeN s) = false := decide_eq_false h1
      generalize sizeN s = k at *
      clear hfin
      go_wp2_with fail
      refine SZ1.out.mono ?_
      rintro e w4 ⟨rfl, hb4'⟩
      have HB4 := hid (HB.out.trans (hb4'.mono HB.out.size))
      clear hb4'
      go_wp2_with fail
      go_ret
      exact ⟨by rw [HFN.out]; rfl, HB4.out⟩
end Go.Proofs.YthlgdakdjikjhaaDoor
