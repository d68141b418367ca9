/-
  The law ClockSame, walked.
-/
import Derived.Test.YthlgdakdjikjhaaDoorRn
namespace Go.Proofs.YthlgdakdjikjhaaDoor
open Go.RowKit Go.ChangeMaps
attribute [local go_sem] Oper.semAt_some

set_option maxRecDepth 100000 in
set_option maxHeartbeats 8000000 in
theorem refSame_any (a : Option Addr) (c : Nat) (M : List (List Nat)) (a' : Option Addr) (c' : Nat) (O : List (List Nat)) (w : World) (hM : OkM M) (hO : OkM O) (hr : RowsAt w a (intM M)) (hr' : RowsAt w a' (intM O)) :
    Calls Tryd.prog 44 #[.slice a M.length c, .slice a' O.length c'] w fun e w' => e = .returned (.bool (sameB M O)) ∧ Below w.heap.size w w' := by
  obtain ⟨g, o, b1, c1, rfl, hg, q1⟩ := head_at hM hr
  obtain ⟨g', o', b1', c1', rfl, hg', q1'⟩ := head_at hO hr'
  have hm1 := hM.b1
  have ho1 := hO.b1
  have hb4 := hM.b4
  have hb4' := hO.b4
  have hn9 := hM.n9
  have hn9' := hO.n9
  have EX := hid (fun (W : World) (hb : Below w.heap.size w W) (h1 : M.length = O.length) (h2 : nst M = nst O) => ren_any (some ⟨g, o, none⟩) c M (some ⟨g', o', none⟩) c' O w hM hO h1 h2 hr hr' (nst M) [] none 0 W hb (Ints.nil _ _) (fun _ => rfl) (by simp) (by simp) (by simp))
  rw [same_ref hM] at EX
  have HSA := hid (show sameB M O = (decide (M.length = O.length) && decide (nst M = nst O) && extF M O (nst M) []) from rfl)
  clear hM hO hr hr'
  generalize nst M = n at *
  generalize nst O = n' at *
  by_cases hlen : M.length = O.length
  · have e1 : ((M.length : Int) != (O.length : Int)) = false := by simp; omega
    by_cases hn : n = n'
    · subst hn
      have e2 : ((n : Int) != (n : Int)) = false := by simp
      have HF := hid (show sameB M O = extF M O n [] by rw [HSA.out, decide_eq_true hlen, decide_eq_true rfl]; rfl)
      have EX2 := hid (fun W hb => EX.out W hb hlen rfl)
      clear hlen EX HSA
      go_enter Tryd.func44, Tryd.ntmps44
      go_wp2_with fail
      go_quiet (fail)
      have B4 := hid (below_drewN (Below.refl w.heap.size w) nq)
      generalize w.drewN nq = w4 at *
      go_wp2_with fail
      refine (EX2.out w4 B4.out).mono ?_
      rintro e w5 ⟨rfl, hb5⟩
      have B5 := hid (B4.out.trans (hb5.mono B4.out.size))
      clear hb5
      go_wp2_with fail
      go_ret
      exact ⟨ret_bool HF.out.symm, B5.out⟩
    · have e2 : ((n : Int) != (n' : Int)) = true := by simp; omega
      have HF := hid (show sameB M O = false by rw [HSA.out, decide_eq_false hn, Bool.and_false, Bool.false_and])
      clear hlen hn EX HSA
      go_enter Tryd.func44, Tryd.ntmps44
      go_wp2_with fail
      go_quiet (fail)
      have B4 := hid (below_drewN (Below.refl w.heap.size w) nq)
      go_wp2_with fail
      go_ret
      exact ⟨ret_bool HF.out.symm, B4.out⟩
  · have e1 : ((M.length : Int) != (O.length : Int)) = true := by simp; omega
    have HF := hid (show sameB M O = false by rw [HSA.out, decide_eq_false hlen, Bool.false_and, Bool.false_and])
    clear hlen EX HSA
    go_enter Tryd.func44, Tryd.ntmps44
    go_wp2_with fail
    go_quiet (fail)
    have B4 := hid (below_drewN (Below.refl w.heap.size w) nq)
    go_wp2_with fail
    go_ret
    exact ⟨ret_bool HF.out.symm, B4.out⟩

set_option maxRecDepth 100000 in
set_option maxHeartbeats 8000000 in
theorem same_walk (a0 : Option Addr) (len0 cap0 : Nat) (X : List (List Int)) (a1 : Option Addr) (len1 cap1 : Nat) (Y : List (List Int)) (w : World) (hG : Glob w) (w0 : IsRows w a0 len0 cap0 X) (w1 : IsRows w a1 len1 cap1 Y) :
    Calls Tryd.prog 12 #[.slice a0 len0 cap0, .slice a1 len1 cap1] w fun e w' => e = .returned (.bool true) ∧ Below w.heap.size w w' := by
  obtain ⟨rfl, hl, -, hr, hl2⟩ := w0
  obtain ⟨rfl, hl', -, hr', hl2'⟩ := w1
  have HG := hid hG
  have TB := hid (table_any a0 cap0 X w hr hl fun r h => (hl2 r h).1)
  have TB2 := hid (fun (W : World) (hb : Below w.heap.size w W) => table_any a1 cap1 Y W (hr'.below hb (Nat.le_refl _)) hl' fun r h => (hl2' r h).1)
  have hTl := tabL_len X
  have hTr := tabL_rows X
  have hUl := tabL_len Y
  have hUr := tabL_rows Y
  generalize tabL X = T at *
  generalize tabL Y = U at *
  clear hG hr hl hl2 hr' hl' hl2'
  go_enter Tryd.func12, Tryd.ntmps12
  go_wp2_with fail
  refine TB.out.mono ?_
  rintro e v1 ⟨a, c, rfl, ht⟩
  have HB1 := hid ht.out.below
  obtain ⟨-, hrt, -, -⟩ := ht.out.rows
  have HRT1 := hid hrt
  clear hrt ht TB
  go_wp2_with fail
  refine (TB2.out v1 HB1.out).mono ?_
  rintro e v2 ⟨a', c', rfl, ht⟩
  have hb2 := ht.out.below
  have HB2 := hid (HB1.out.trans (hb2.mono HB1.out.size))
  have HRT := hid (HRT1.out.below hb2 (Nat.le_refl _))
  obtain ⟨-, hrt, -, -⟩ := ht.out.rows
  have HRU := hid hrt
  clear hrt ht TB2 hb2 HRT1
  have RM := hid (fun W (hb : Below v2.heap.size v2 W) => refMachine_any a c T W (HRT.out.below hb (Nat.le_refl _)) (by omega) (fun r h => by have := hTr r h; omega))
  have RM2 := hid (fun W (hb : Below v2.heap.size v2 W) => refMachine_any a' c' U W (HRU.out.below hb (Nat.le_refl _)) (by omega) (fun r h => by have := hUr r h; omega))
  have AW := hid (fun (W : World) (hb : Below v2.heap.size v2 W) => awake_any W (HG.out.next (HB2.out.trans (hb.mono HB2.out.size))))
  cases hm : machineB T && machineB U with
  | false =>
    have C1 := hid (Same_bad a c T a' c' U v2 HRT.out HRU.out (by omega) (fun r h => by have := hTr r h; omega) (by omega) (fun r h => by have := hUr r h; omega) hm)
    have HM := hid hm
    clear hTr hUr hm
    go_wp2_with fail
    refine C1.out.mono ?_
    rintro e v3 ⟨rfl, hb3⟩
    have B3 := hid hb3
    clear hb3
    cases h1 : machineB T with
    | false =>
      rw [h1] at RM
      clear h1 HM
      go_wp2_with fail
      refine (RM.out v3 B3.out).mono ?_
      rintro e v4 ⟨rfl, rfl⟩
      go_wp2_with fail
      refine (AW.out v3 B3.out).mono ?_
      rintro e v6 ⟨rfl, hb6⟩
      have B6 := hid (HB2.out.trans ((B3.out.trans (hb6.mono B3.out.size)).mono HB2.out.size))
      clear hb6
      go_wp2_with fail
      go_ret
      exact ⟨rfl, B6.out⟩
    | true =>
      have h2 := HM.out
      rw [h1, Bool.true_and] at h2
      rw [h1] at RM
      rw [h2] at RM2
      clear h1 h2 HM
      go_wp2_with fail
      refine (RM.out v3 B3.out).mono ?_
      rintro e v4 ⟨rfl, rfl⟩
      go_wp2_with fail
      refine (RM2.out v3 B3.out).mono ?_
      rintro e v4 ⟨rfl, rfl⟩
      go_wp2_with fail
      refine (AW.out v3 B3.out).mono ?_
      rintro e v6 ⟨rfl, hb6⟩
      have B6 := hid (HB2.out.trans ((B3.out.trans (hb6.mono B3.out.size)).mono HB2.out.size))
      clear hb6
      go_wp2_with fail
      go_ret
      exact ⟨rfl, B6.out⟩
  | true =>
    rw [Bool.and_eq_true] at hm
    obtain ⟨hm1, hm2⟩ := hm
    obtain ⟨M, rfl, hM⟩ := machine_ok T hm1
    obtain ⟨O, rfl, hO⟩ := machine_ok U hm2
    rw [hm1, intM_length] at RM
    rw [hm2, intM_length] at RM2
    rw [intM_length, intM_length]
    have C1 := hid (Same_yes a c M a' c' O v2 hM hO HRT.out HRU.out)
    have C2 := hid (fun W (hb : Below v2.heap.size v2 W) => refSame_any a c M a' c' O W hM hO (HRT.out.below hb (Nat.le_refl _)) (HRU.out.below hb (Nat.le_refl _)))
    clear hm1 hm2 hM hO hTr hUr hTl hUl
    generalize sameB M O = s at *
    have e1 : (s == s) = true := beq_self_eq_true s
    go_wp2_with fail
    refine C1.out.mono ?_
    rintro e v3 ⟨rfl, hb3⟩
    have B3 := hid hb3
    clear hb3
    go_wp2_with fail
    refine (RM.out v3 B3.out).mono ?_
    rintro e v4 ⟨rfl, rfl⟩
    go_wp2_with fail
    refine (RM2.out v3 B3.out).mono ?_
    rintro e v4 ⟨rfl, rfl⟩
    go_wp2_with fail
    refine (C2.out v3 B3.out).mono ?_
    rintro e v4 ⟨rfl, hb4⟩
    have B4 := hid (B3.out.trans (hb4.mono B3.out.size))
    clear hb4
    go_wp2_with fail
    refine (AW.out v4 B4.out).mono ?_
    rintro e v6 ⟨rfl, hb6⟩
    have B6 := hid (HB2.out.trans ((B4.out.trans (hb6.mono B4.out.size)).mono HB2.out.size))
    clear hb6
    go_wp2_with fail
    go_ret
    exact ⟨rfl, B6.out⟩
end Go.Proofs.YthlgdakdjikjhaaDoor
