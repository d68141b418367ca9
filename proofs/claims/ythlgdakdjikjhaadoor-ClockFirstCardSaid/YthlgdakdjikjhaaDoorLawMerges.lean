/-
  The law ClockMerges, walked.
-/
import Derived.Test.YthlgdakdjikjhaaDoorR
import Derived.Test.YthlgdakdjikjhaaDoorM
import Derived.BigQuiet
namespace Go.Proofs.YthlgdakdjikjhaaDoor
open Go.RowKit Go.ChangeMaps
attribute [local go_sem] Oper.semAt_some

theorem tabL_len (X : List (List Int)) : (tabL X).length ≤ 6 := by unfold tabL; rw [List.length_map, List.length_take]; omega
theorem tabL_rows (X : List (List Int)) : ∀ r ∈ tabL X, r.length ≤ 11 := by
  intro r hr
  obtain ⟨s, _, rfl⟩ := List.mem_map.1 hr
  rw [List.length_take]; omega
theorem head_at {w : World} {a : Option Addr} {M : List (List Nat)} (hM : OkM M) (hr : RowsAt w a (intM M)) : ∃ g o b1 c1, a = some ⟨g, o, none⟩ ∧ g < w.heap.size ∧ w.cell? ⟨g, o, none⟩ = some (.slice b1 (nst M) c1) := by
  obtain ⟨g, o, b1, c1, ha, hg, q1, -⟩ := row_at hM hr 0 (by have := hM.b1; omega)
  exact ⟨g, o, b1, c1, ha, hg, by simpa using q1⟩

set_option maxRecDepth 100000 in
set_option maxHeartbeats 4000000 in
theorem merges_walk (a0 : Option Addr) (len0 cap0 : Nat) (X : List (List Int)) (x1 : Nat → Int) (w : World) (hG : Glob w) (w0 : IsRows w a0 len0 cap0 X) (w1 : ∀ c, -9223372036854775808 ≤ x1 c ∧ x1 c ≤ 9223372036854775807) :
    Calls Tryd.prog 5 #[.slice a0 len0 cap0, .agg #[.int .i64 (x1 0), .int .i64 (x1 1)]] w fun e w' => e = .returned (.bool true) ∧ Below w.heap.size w w' := by
  obtain ⟨rfl, hl, -, hr, hl2⟩ := w0
  have HG := hid hG
  have hb0 : Below w.heap.size w (w.alloc (.cells #[.int .i64 (x1 0), .int .i64 (x1 1)] 33)) := (Below.refl _ w).alloc (Nat.le_refl _) _
  have TB := hid (table_any a0 cap0 X (w.alloc (.cells #[.int .i64 (x1 0), .int .i64 (x1 1)] 33)) (hr.below hb0 (Nat.le_refl _)) hl fun r h => (hl2 r h).1)
  have HB0 := hid hb0
  have q0 : (w.alloc (.cells #[.int .i64 (x1 0), .int .i64 (x1 1)] 33)).cell? ⟨w.heap.size, 0, none⟩ = some (.int .i64 (x1 0)) := (Blk.new w _ _).cell 0
  have q1 : (w.alloc (.cells #[.int .i64 (x1 0), .int .i64 (x1 1)] 33)).cell? ⟨w.heap.size, 1, none⟩ = some (.int .i64 (x1 1)) := (Blk.new w _ _).cell 1
  have hsz : w.heap.size < (w.alloc (.cells #[.int .i64 (x1 0), .int .i64 (x1 1)] 33)).heap.size := by simp
  have bp := w1 0
  have bq := w1 1
  have hTl := tabL_len X
  have hTr := tabL_rows X
  generalize x1 0 = p at *
  generalize x1 1 = q at *
  generalize tabL X = T at *
  clear hG hb0 hr hl hl2 w1
  go_enter Tryd.func5, Tryd.ntmps5
  go_wp2_with fail
  refine TB.out.mono ?_
  rintro e w2 ⟨a2, c2, rfl, ht⟩
  have hb2 := ht.out.below
  have q0' := (hb2.cell (p := ⟨w.heap.size, 0, none⟩) hsz).trans q0
  have q1' := (hb2.cell (p := ⟨w.heap.size, 1, none⟩) hsz).trans q1
  have HB2 := hid (HB0.out.trans (hb2.mono HB0.out.size))
  obtain ⟨-, hrt, -, -⟩ := ht.out.rows
  have HRT := hid hrt
  clear hb2 hrt ht q0 q1 TB
  go_wp2_with fail
  cases hm : machineB T with
  | false =>
    go_quiet (fail)
    have HDN := hid (HB2.out.trans ((below_drewN (Below.refl _ w2) nq).mono HB2.out.size))
    have hrt3 := HRT.out.below (below_drewN (Below.refl _ w2) nq) (Nat.le_refl _)
    have MN := hid (Merge_no a2 c2 T p q (w2.drewN nq) hrt3 (by omega) (fun r h => by have := hTr r h; omega) hm)
    have RM := hid (fun W (hb : Below (w2.drewN nq).heap.size (w2.drewN nq) W) => refMachine_any a2 c2 T W (hrt3.below hb (Nat.le_refl _)) (by omega) (fun r h => by have := hTr r h; omega))
    rw [hm] at RM
    generalize w2.drewN nq = w3 at *
    clear hrt3 hTr hm
    go_wp2_with fail
    refine MN.out.mono ?_
    rintro e w4 ⟨rfl, hb4⟩
    have B4 := hid (HDN.out.trans (hb4.mono HDN.out.size))
    have RM4 := hid (RM.out w4 hb4)
    clear hb4
    go_wp2_with fail
    refine RM4.out.mono ?_
    rintro e w5 ⟨rfl, rfl⟩
    go_wp2_with fail
    refine (awake_any _ (HG.out.next B4.out)).mono ?_
    rintro e w9 ⟨rfl, hb9⟩
    have B9 := hid (B4.out.trans (hb9.mono B4.out.size))
    clear hb9
    go_wp2_with fail
    go_ret
    exact ⟨rfl, B9.out⟩
  | true =>
    obtain ⟨M, rfl, hM⟩ := machine_ok T hm
    go_quiet (fail)
    have HDN := hid (HB2.out.trans ((below_drewN (Below.refl _ w2) nq).mono HB2.out.size))
    have hrt3 := HRT.out.below (below_drewN (Below.refl _ w2) nq) (Nat.le_refl _)
    have RM := hid (fun W (hb : Below (w2.drewN nq).heap.size (w2.drewN nq) W) => refMachine_any a2 c2 (intM M) W (hrt3.below hb (Nat.le_refl _)) (by omega) (fun r h => by have := hTr r h; omega))
    rw [hm, intM_length] at RM
    obtain ⟨g, o, b1, c1, rfl, hg, q3⟩ := head_at hM hrt3
    have HQ := hid (fun W (hb : Below (w2.drewN nq).heap.size (w2.drewN nq) W) => (hb.cell (p := ⟨g, o, none⟩) hg).trans q3)
    rw [intM_length] at ⊢
    by_cases hpq : p < 0 ∨ (nst M : Int) ≤ p ∨ q < 0 ∨ (nst M : Int) ≤ q
    · have MN := hid (Merge_bad (some ⟨g, o, none⟩) c2 M p q (w2.drewN nq) hM hrt3 hpq)
      have hn9 := hM.n9
      have h1 := hM.b1
      generalize w2.drewN nq = w3 at *
      generalize nst M = n at *
      clear hrt3 hTr hm q3 hM
      go_wp2_with fail
      refine MN.out.mono ?_
      rintro e w4 ⟨rfl, hb4⟩
      have B4 := hid (HDN.out.trans (hb4.mono HDN.out.size))
      have RM4 := hid (RM.out w4 hb4)
      have q4 := HQ.out w4 hb4
      clear hb4
      go_wp2_with fail
      refine RM4.out.mono ?_
      rintro e w5 ⟨rfl, rfl⟩
      rcases (show p < 0 ∨ (0 ≤ p ∧ (n : Int) ≤ p) ∨ (0 ≤ p ∧ p < (n : Int) ∧ q < 0) ∨ (0 ≤ p ∧ p < (n : Int) ∧ 0 ≤ q ∧ (n : Int) ≤ q) by omega) with h | ⟨h, h2⟩ | ⟨h, h2, h3⟩ | ⟨h, h2, h3, h4⟩
      · have d1 : decide (p < 0) = true := decide_eq_true h
        clear hpq
        go_wp2_with fail
        refine (awake_any _ (HG.out.next B4.out)).mono ?_
        rintro e w9 ⟨rfl, hb9⟩
        have B9 := hid (B4.out.trans (hb9.mono B4.out.size))
        clear hb9
        go_wp2_with fail
        go_ret
        exact ⟨rfl, B9.out⟩
      · have d1 : decide (p < 0) = false := decide_eq_false (by omega)
        have d2 : decide (p ≥ (n : Int)) = true := decide_eq_true h2
        clear hpq
        go_wp2_with fail
        refine (awake_any _ (HG.out.next B4.out)).mono ?_
        rintro e w9 ⟨rfl, hb9⟩
        have B9 := hid (B4.out.trans (hb9.mono B4.out.size))
        clear hb9
        go_wp2_with fail
        go_ret
        exact ⟨rfl, B9.out⟩
      · have d1 : decide (p < 0) = false := decide_eq_false (by omega)
        have d2 : decide (p ≥ (n : Int)) = false := decide_eq_false (by omega)
        have d3 : decide (q < 0) = true := decide_eq_true h3
        clear hpq
        go_wp2_with fail
        refine (awake_any _ (HG.out.next B4.out)).mono ?_
        rintro e w9 ⟨rfl, hb9⟩
        have B9 := hid (B4.out.trans (hb9.mono B4.out.size))
        clear hb9
        go_wp2_with fail
        go_ret
        exact ⟨rfl, B9.out⟩
      · have d1 : decide (p < 0) = false := decide_eq_false (by omega)
        have d2 : decide (p ≥ (n : Int)) = false := decide_eq_false (by omega)
        have d3 : decide (q < 0) = false := decide_eq_false (by omega)
        have d4 : decide (q ≥ (n : Int)) = true := decide_eq_true h4
        clear hpq
        go_wp2_with fail
        refine (awake_any _ (HG.out.next B4.out)).mono ?_
        rintro e w9 ⟨rfl, hb9⟩
        have B9 := hid (B4.out.trans (hb9.mono B4.out.size))
        clear hb9
        go_wp2_with fail
        go_ret
        exact ⟨rfl, B9.out⟩
    · obtain ⟨P, rfl⟩ := Int.eq_ofNat_of_zero_le (a := p) (by omega)
      obtain ⟨Q, rfl⟩ := Int.eq_ofNat_of_zero_le (a := q) (by omega)
      have MN := hid (Merge_yes (some ⟨g, o, none⟩) c2 M P Q (w2.drewN nq) hM hrt3 (by omega) (by omega))
      have MR := hid (fun W (hb : Below (w2.drewN nq).heap.size (w2.drewN nq) W) => refMerge_any (some ⟨g, o, none⟩) c2 M P Q W hM (hrt3.below hb (Nat.le_refl _)) (by omega) (by omega))
      have hn9 := hM.n9
      have h1 := hM.b1
      generalize w2.drewN nq = w3 at *
      generalize nst M = n at *
      have d1 : decide ((P : Int) < 0) = false := decide_eq_false (by omega)
      have d2 : decide ((P : Int) ≥ (n : Int)) = false := decide_eq_false (by omega)
      have d3 : decide ((Q : Int) < 0) = false := decide_eq_false (by omega)
      have d4 : decide ((Q : Int) ≥ (n : Int)) = false := decide_eq_false (by omega)
      have d5 : decide (n ≤ P) = false := decide_eq_false (by omega)
      have d6 : decide (n ≤ Q) = false := decide_eq_false (by omega)
      cases hf : firstE M (pairN P Q) oneB with
      | none =>
        rw [hf] at MN MR
        simp only [mergeV, Option.isSome_none] at MN MR
        clear hrt3 hTr hm q3 hM hpq hf
        go_wp2_with fail
        refine MN.out.mono ?_
        rintro e w4 ⟨rfl, hb4⟩
        have B4 := hid (HDN.out.trans (hb4.mono HDN.out.size))
        have RM4 := hid (RM.out w4 hb4)
        have MR4 := hid (MR.out w4 hb4)
        have q4 := HQ.out w4 hb4
        clear hb4
        go_wp2_with fail
        refine RM4.out.mono ?_
        rintro e w5 ⟨rfl, rfl⟩
        go_wp2_with fail
        refine MR4.out.mono ?_
        rintro e w6 ⟨wd, rfl, -, hb6⟩
        have B6 := hid (B4.out.trans (hb6.mono B4.out.size))
        clear hb6
        go_wp2_with fail
        refine (awake_any _ (HG.out.next B6.out)).mono ?_
        rintro e w9 ⟨rfl, hb9⟩
        have B9 := hid (B6.out.trans (hb9.mono B6.out.size))
        clear hb9
        go_wp2_with fail
        go_ret
        exact ⟨rfl, B9.out⟩
      | some x =>
        rw [hf] at MN MR
        simp only [mergeV, Option.isSome_some] at MN MR
        clear hrt3 hTr hm q3 hM hpq hf
        go_wp2_with fail
        refine MN.out.mono ?_
        rintro e w4 ⟨rfl, hb4⟩
        have B4 := hid (HDN.out.trans (hb4.mono HDN.out.size))
        have RM4 := hid (RM.out w4 hb4)
        have MR4 := hid (MR.out w4 hb4)
        have q4 := HQ.out w4 hb4
        clear hb4
        go_wp2_with fail
        refine RM4.out.mono ?_
        rintro e w5 ⟨rfl, rfl⟩
        go_wp2_with fail
        refine MR4.out.mono ?_
        rintro e w6 ⟨wd, rfl, hwd, hb6⟩
        have hwd2 := hwd.out x rfl
        subst hwd2
        have B6 := hid (B4.out.trans (hb6.mono B4.out.size))
        clear hb6 hwd
        go_wp2_with fail
        refine (awake_any _ (HG.out.next B6.out)).mono ?_
        rintro e w9 ⟨rfl, hb9⟩
        have B9 := hid (B6.out.trans (hb9.mono B6.out.size))
        clear hb9
        go_wp2_with fail
        go_ret
        exact ⟨rfl, B9.out⟩
end Go.Proofs.YthlgdakdjikjhaaDoor
