/-
  Texts merged: LawMerges, S, U, V, LawLeads.
-/
import Derived.Test.YthlgdakdjikjhaaDoorUE
import Derived.BigQuiet
import Derived.Test.YthlgdakdjikjhaaDoorUA
import Derived.Test.YthlgdakdjikjhaaDoorUC
import Derived.Test.YthlgdakdjikjhaaDoorUB
/-
  The law ClockMerges, walked.
-/
namespace Go.Proofs.YthlgdakdjikjhaaDoor
open Go.RowKit Go.ChangeMaps
attribute [local go_sem] Oper.semAt_some

theorem tabL_len (X : List (List Int)) : (tabL X).length ≤ 6 := by unfold tabL; rw [List.length_map, List.length_take]; omega
theorem tabL_rows (X : List (List Int)) : ∀ r ∈ tabL X, r.length ≤ 11 := by
  intro r hr
  obtain ⟨s, _, rfl⟩ := List.mem_map.1 hr
  rw [List.length_take]; omega
theorem head_at {w : World} {a : Option Addr} {M : List (List Nat)} (hM : OkM M) (hr : RowsAt w a (intM M)) : ∃ g o b1 c1, a = some ⟨g, o, none⟩ ∧ g < w.heap.size ∧ w.cell? ⟨g, o, none⟩ = some (.slice b1 (nst M) c1) := by
  obtain ⟨g, o, b1, c1, ha, hg, q1, -⟩ := row_at hM hr 0 (by have := hM.b1; omega)
  exact ⟨g, o, b1, c1, ha, hg, by simpa using q1⟩

set_option maxRecDepth 100000 in
set_option maxHeartbeats 4000000 in
theorem merges_walk (a0 : Option Addr) (len0 cap0 : Nat) (X : List (List Int)) (x1 : Nat → Int) (w : World) (hG : Glob w) (w0 : IsRows w a0 len0 cap0 X) (w1 : ∀ c, -9223372036854775808 ≤ x1 c ∧ x1 c ≤ 9223372036854775807) :
    Calls Tryd.prog 5 #[.slice a0 len0 cap0, .agg #[.int .i64 (x1 0), .int .i64 (x1 1)]] w fun e w' => e = .returned (.bool true) ∧ Below w.heap.size w w' := by
  obtain ⟨rfl, hl, -, hr, hl2⟩ := w0
  have HG := hid hG
  have hb0 : Below w.heap.size w (w.alloc (.cells #[.int .i64 (x1 0), .int .i64 (x1 1)] 33)) := (Below.refl _ w).alloc (Nat.le_refl _) _
  have TB := hid (table_any a0 cap0 X (w.alloc (.cells #[.int .i64 (x1 0), .int .i64 (x1 1)] 33)) (hr.below hb0 (Nat.le_refl _)) hl fun r h => (hl2 r h).1)
  have HB0 := hid hb0
  have q0 : (w.alloc (.cells #[.int .i64 (x1 0), .int .i64 (x1 1)] 33)).cell? ⟨w.heap.size, 0, none⟩ = some (.int .i64 (x1 0)) := (Blk.new w _ _).cell 0
  have q1 : (w.alloc (.cells #[.int .i64 (x1 0), .int .i64 (x1 1)] 33)).cell? ⟨w.heap.size, 1, none⟩ = some (.int .i64 (x1 1)) := (Blk.new w _ _).cell 1
  have hsz : w.heap.size < (w.alloc (.cells #[.int .i64 (x1 0), .int .i64 (x1 1)] 33)).heap.size := by simp
  have bp := w1 0
  have bq := w1 1
  have hTl := tabL_len X
  have hTr := tabL_rows X
  generalize x1 0 = p at *
  generalize x1 1 = q at *
  generalize tabL X = T at *
  clear hG hb0 hr hl hl2 w1
  go_enter Tryd.func5, Tryd.ntmps5
  go_wp2_with fail
  refine TB.out.mono ?_
  rintro e w2 ⟨a2, c2, rfl, ht⟩
  have hb2 := ht.out.below
  have q0' := (hb2.cell (p := ⟨w.heap.size, 0, none⟩) hsz).trans q0
  have q1' := (hb2.cell (p := ⟨w.heap.size, 1, none⟩) hsz).trans q1
  have HB2 := hid (HB0.out.trans (hb2.mono HB0.out.size))
  obtain ⟨-, hrt, -, -⟩ := ht.out.rows
  have HRT := hid hrt
  clear hb2 hrt ht q0 q1 TB
  go_wp2_with fail
  cases hm : machineB T with
  | false =>
    go_quiet (fail)
    have HDN := hid (HB2.out.trans ((below_drewN (Below.refl _ w2) nq).mono HB2.out.size))
    have hrt3 := HRT.out.below (below_drewN (Below.refl _ w2) nq) (Nat.le_refl _)
    have MN := hid (Merge_no a2 c2 T p q (w2.drewN nq) hrt3 (by omega) (fun r h => by have := hTr r h; omega) hm)
    have RM := hid (fun W (hb : Below (w2.drewN nq).heap.size (w2.drewN nq) W) => refMachine_any a2 c2 T W (hrt3.below hb (Nat.le_refl _)) (by omega) (fun r h => by have := hTr r h; omega))
    rw [hm] at RM
    generalize w2.drewN nq = w3 at *
    clear hrt3 hTr hm
    go_wp2_with fail
    refine MN.out.mono ?_
    rintro e w4 ⟨rfl, hb4⟩
    have B4 := hid (HDN.out.trans (hb4.mono HDN.out.size))
    have RM4 := hid (RM.out w4 hb4)
    clear hb4
    go_wp2_with fail
    refine RM4.out.mono ?_
    rintro e w5 ⟨rfl, rfl⟩
    go_wp2_with fail
    refine (awake_any _ (HG.out.next B4.out)).mono ?_
    rintro e w9 ⟨rfl, hb9⟩
    have B9 := hid (B4.out.trans (hb9.mono B4.out.size))
    clear hb9
    go_wp2_with fail
    go_ret
    exact ⟨rfl, B9.out⟩
  | true =>
    obtain ⟨M, rfl, hM⟩ := machine_ok T hm
    go_quiet (fail)
    have HDN := hid (HB2.out.trans ((below_drewN (Below.refl _ w2) nq).mono HB2.out.size))
    have hrt3 := HRT.out.below (below_drewN (Below.refl _ w2) nq) (Nat.le_refl _)
    have RM := hid (fun W (hb : Below (w2.drewN nq).heap.size (w2.drewN nq) W) => refMachine_any a2 c2 (intM M) W (hrt3.below hb (Nat.le_refl _)) (by omega) (fun r h => by have := hTr r h; omega))
    rw [hm, intM_length] at RM
    obtain ⟨g, o, b1, c1, rfl, hg, q3⟩ := head_at hM hrt3
    have HQ := hid (fun W (hb : Below (w2.drewN nq).heap.size (w2.drewN nq) W) => (hb.cell (p := ⟨g, o, none⟩) hg).trans q3)
    rw [intM_length] at ⊢
    by_cases hpq : p < 0 ∨ (nst M : Int) ≤ p ∨ q < 0 ∨ (nst M : Int) ≤ q
    · have MN := hid (Merge_bad (some ⟨g, o, none⟩) c2 M p q (w2.drewN nq) hM hrt3 hpq)
      have hn9 := hM.n9
      have h1 := hM.b1
      generalize w2.drewN nq = w3 at *
      generalize nst M = n at *
      clear hrt3 hTr hm q3 hM
      go_wp2_with fail
      refine MN.out.mono ?_
      rintro e w4 ⟨rfl, hb4⟩
      have B4 := hid (HDN.out.trans (hb4.mono HDN.out.size))
      have RM4 := hid (RM.out w4 hb4)
      have q4 := HQ.out w4 hb4
      clear hb4
      go_wp2_with fail
      refine RM4.out.mono ?_
      rintro e w5 ⟨rfl, rfl⟩
      rcases (show p < 0 ∨ (0 ≤ p ∧ (n : Int) ≤ p) ∨ (0 ≤ p ∧ p < (n : Int) ∧ q < 0) ∨ (0 ≤ p ∧ p < (n : Int) ∧ 0 ≤ q ∧ (n : Int) ≤ q) by omega) with h | ⟨h, h2⟩ | ⟨h, h2, h3⟩ | ⟨h, h2, h3, h4⟩
      · have d1 : decide (p < 0) = true := decide_eq_true h
        clear hpq
        go_wp2_with fail
        refine (awake_any _ (HG.out.next B4.out)).mono ?_
        rintro e w9 ⟨rfl, hb9⟩
        have B9 := hid (B4.out.trans (hb9.mono B4.out.size))
        clear hb9
        go_wp2_with fail
        go_ret
        exact ⟨rfl, B9.out⟩
      · have d1 : decide (p < 0) = false := decide_eq_false (by omega)
        have d2 : decide (p ≥ (n : Int)) = true := decide_eq_true h2
        clear hpq
        go_wp2_with fail
        refine (awake_any _ (HG.out.next B4.out)).mono ?_
        rintro e w9 ⟨rfl, hb9⟩
        have B9 := hid (B4.out.trans (hb9.mono B4.out.size))
        clear hb9
        go_wp2_with fail
        go_ret
        exact ⟨rfl, B9.out⟩
      · have d1 : decide (p < 0) = false := decide_eq_false (by omega)
        have d2 : decide (p ≥ (n : Int)) = false := decide_eq_false (by omega)
        have d3 : decide (q < 0) = true := decide_eq_true h3
        clear hpq
        go_wp2_with fail
        refine (awake_any _ (HG.out.next B4.out)).mono ?_
        rintro e w9 ⟨rfl, hb9⟩
        have B9 := hid (B4.out.trans (hb9.mono B4.out.size))
        clear hb9
        go_wp2_with fail
        go_ret
        exact ⟨rfl, B9.out⟩
      · have d1 : decide (p < 0) = false := decide_eq_false (by omega)
        have d2 : decide (p ≥ (n : Int)) = false := decide_eq_false (by omega)
        have d3 : decide (q < 0) = false := decide_eq_false (by omega)
        have d4 : decide (q ≥ (n : Int)) = true := decide_eq_true h4
        clear hpq
        go_wp2_with fail
        refine (awake_any _ (HG.out.next B4.out)).mono ?_
        rintro e w9 ⟨rfl, hb9⟩
        have B9 := hid (B4.out.trans (hb9.mono B4.out.size))
        clear hb9
        go_wp2_with fail
        go_ret
        exact ⟨rfl, B9.out⟩
    · obtain ⟨P, rfl⟩ := Int.eq_ofNat_of_zero_le (a := p) (by omega)
      obtain ⟨Q, rfl⟩ := Int.eq_ofNat_of_zero_le (a := q) (by omega)
      have MN := hid (Merge_yes (some ⟨g, o, none⟩) c2 M P Q (w2.drewN nq) hM hrt3 (by omega) (by omega))
      have MR := hid (fun W (hb : Below (w2.drewN nq).heap.size (w2.drewN nq) W) => refMerge_any (some ⟨g, o, none⟩) c2 M P Q W hM (hrt3.below hb (Nat.le_refl _)) (by omega) (by omega))
      have hn9 := hM.n9
      have h1 := hM.b1
      generalize w2.drewN nq = w3 at *
      generalize nst M = n at *
      have d1 : decide ((P : Int) < 0) = false := decide_eq_false (by omega)
      have d2 : decide ((P : Int) ≥ (n : Int)) = false := decide_eq_false (by omega)
      have d3 : decide ((Q : Int) < 0) = false := decide_eq_false (by omega)
      have d4 : decide ((Q : Int) ≥ (n : Int)) = false := decide_eq_false (by omega)
      have d5 : decide (n ≤ P) = false := decide_eq_false (by omega)
      have d6 : decide (n ≤ Q) = false := decide_eq_false (by omega)
      cases hf : firstE M (pairN P Q) oneB with
      | none =>
        rw [hf] at MN MR
        simp only [mergeV, Option.isSome_none] at MN MR
        clear hrt3 hTr hm q3 hM hpq hf
        go_wp2_with fail
        refine MN.out.mono ?_
        rintro e w4 ⟨rfl, hb4⟩
        have B4 := hid (HDN.out.trans (hb4.mono HDN.out.size))
        have RM4 := hid (RM.out w4 hb4)
        have MR4 := hid (MR.out w4 hb4)
        have q4 := HQ.out w4 hb4
        clear hb4
        go_wp2_with fail
        refine RM4.out.mono ?_
        rintro e w5 ⟨rfl, rfl⟩
        go_wp2_with fail
        refine MR4.out.mono ?_
        rintro e w6 ⟨wd, rfl, -, hb6⟩
        have B6 := hid (B4.out.trans (hb6.mono B4.out.size))
        clear hb6
        go_wp2_with fail
        refine (awake_any _ (HG.out.next B6.out)).mono ?_
        rintro e w9 ⟨rfl, hb9⟩
        have B9 := hid (B6.out.trans (hb9.mono B6.out.size))
        clear hb9
        go_wp2_with fail
        go_ret
        exact ⟨rfl, B9.out⟩
      | some x =>
        rw [hf] at MN MR
        simp only [mergeV, Option.isSome_some] at MN MR
        clear hrt3 hTr hm q3 hM hpq hf
        go_wp2_with fail
        refine MN.out.mono ?_
        rintro e w4 ⟨rfl, hb4⟩
        have B4 := hid (HDN.out.trans (hb4.mono HDN.out.size))
        have RM4 := hid (RM.out w4 hb4)
        have MR4 := hid (MR.out w4 hb4)
        have q4 := HQ.out w4 hb4
        clear hb4
        go_wp2_with fail
        refine RM4.out.mono ?_
        rintro e w5 ⟨rfl, rfl⟩
        go_wp2_with fail
        refine MR4.out.mono ?_
        rintro e w6 ⟨wd, rfl, hwd, hb6⟩
        have hwd2 := hwd.out x rfl
        subst hwd2
        have B6 := hid (B4.out.trans (hb6.mono B4.out.size))
        clear hb6 hwd
        go_wp2_with fail
        refine (awake_any _ (HG.out.next B6.out)).mono ?_
        rintro e w9 ⟨rfl, hb9⟩
        have B9 := hid (B6.out.trans (hb9.mono B6.out.size))
        clear hb9
        go_wp2_with fail
        go_ret
        exact ⟨rfl, B9.out⟩
end Go.Proofs.YthlgdakdjikjhaaDoor
/-
  Walks: a machine made from any lists.
-/
namespace Go.Proofs.YthlgdakdjikjhaaDoor
open Go.RowKit Go.ChangeMaps
attribute [local go_sem] Oper.semAt_some

theorem own_row {w : World} {g n base : Nat} {cs : Array Value} {t : TypeId} (h : Blk w g cs t) (hs : cs.size = n) (hb : base ≤ g) (hn : n ≤ 1000) : w.ownsRow base t 1 (.slice (some ⟨g, 0, none⟩) n n) n cs.toList :=
  ⟨by rw [Array.length_toList, hs]; omega, .inr ⟨g, n, cs, rfl, hb, h, Nat.le_refl _, Nat.le_trans hn (by decide), by omega, by rw [List.take_of_length_le (by rw [Array.length_toList]; omega)]⟩⟩
/-- A row of numbers below n. -/
def rowN (f : Nat → Nat) (n : Nat) : List Nat := (List.range n).map f
theorem rowN_len (f : Nat → Nat) (n : Nat) : (rowN f n).length = n := by simp [rowN]
theorem rowA_list (f : Nat → Nat) (n : Nat) : (rowA (fun i => (f i : Int)) n).toList = ((rowN f n).map fun (x : Nat) => (x : Int)).map (Value.int .i64) := by
  unfold rowA rowN
  rw [List.map_map, List.map_map]
  rfl
theorem rowA_size (f : Nat → Int) (n : Nat) : (rowA f n).size = n := by simp [rowA]
theorem Tab.next' {w W : World} (h : Tab w w (.slice none 0 0) []) (hb : Below w.heap.size w W) : Tab w W (.slice none 0 0) [] := h.next hb
/-- What a call returns: a machine, in memory of the call's own. -/
def RetM (w : World) (e : Ending) (w' : World) : Prop := ∃ M a c, OkM M ∧ e = .returned (.slice a M.length c) ∧ Hid (Tab w w' (.slice a M.length c) (intM M))
theorem intM_snoc (M : List (List Nat)) (r : List Nat) : intM M ++ [r.map fun (x : Nat) => (x : Int)] = intM (M ++ [r]) := by simp [intM]

set_option maxRecDepth 100000 in
set_option maxHeartbeats 4000000 in
theorem tame_any (a : Option Addr) (c : Nat) (X : List (List Int)) (w : World) (hX : IsRows w a X.length c X) : Calls Tryd.prog 26 #[.slice a X.length c] w (RetM w) := by
  obtain ⟨-, hl, -, hr, hl2⟩ := hX
  have hmx : maxLen ≤ 9223372036854775807 := by decide
  have TB := hid (table_any a c X w hr hl fun r h => (hl2 r h).1)
  have hTl := tabL_len X
  have hTr := tabL_rows X
  cases hm : machineB (tabL X) with
  | true =>
    obtain ⟨M, hMT, hM⟩ := machine_ok _ hm
    rw [hMT] at TB hTl hTr
    have RM := hid (fun a' c' W (hr' : RowsAt W a' (intM M)) => refMachine_any a' c' (intM M) W hr' (by omega) (fun r h => by have := hTr r h; omega))
    rw [ok_machine M hM] at RM
    have HM := hid hM
    clear hr hl2 hTr hMT hm hM
    go_enter Tryd.func26, Tryd.ntmps26
    go_wp2_with fail
    refine TB.out.mono ?_
    rintro e w1 ⟨a1, c1, rfl, ht⟩
    obtain ⟨-, hr1, -, -⟩ := ht.out.rows
    have RM1 := hid (RM.out a1 c1 w1 hr1)
    clear hr1
    rw [intM_length] at *
    go_wp2_with fail
    refine RM1.out.mono ?_
    rintro e w2 ⟨rfl, rfl⟩
    go_wp2_with fail
    go_ret
    exact ⟨M, a1, c1, HM.out, rfl, ht⟩
  | false =>
    have RM := hid (fun a' c' W (hr' : RowsAt W a' (tabL X)) => refMachine_any a' c' (tabL X) W hr' (by omega) (fun r h => by have := hTr r h; omega))
    rw [hm] at RM
    have HR := hid (fun W (hb : Below w.heap.size w W) => hr.below hb (Nat.le_refl _))
    have HL2 := hid hl2
    have MK := hid (fun W => mod_any ((X.length : Int) - 1) 4 W (by omega) (by omega) (by omega))
    have hk4 := modN_lt ((X.length : Int) - 1) 4 (by omega)
    generalize modN ((X.length : Int) - 1) 4 = k at *
    generalize tabL X = T at *
    clear hr hl2 hTr hm
    go_enter Tryd.func26, Tryd.ntmps26
    go_wp2_with fail
    refine TB.out.mono ?_
    rintro e w1 ⟨a1, c1, rfl, ht⟩
    obtain ⟨-, hr1, -, -⟩ := ht.out.rows
    have RM1 := hid (RM.out a1 c1 w1 hr1)
    have HB1 := hid ht.out.below
    clear hr1 ht
    go_wp2_with fail
    refine RM1.out.mono ?_
    rintro e w2 ⟨rfl, rfl⟩
    go_wp2_with fail
    refine (MK.out w1).mono ?_
    rintro e w2 ⟨rfl, rfl⟩
    by_cases h0 : 0 < X.length
    · obtain ⟨g0, o0, b0, c0, ha0, hg0, qh, -, -, -⟩ := (HR.out w (Below.refl _ w)).at 0 X[0] (List.getElem?_eq_getElem h0)
      rw [Nat.add_zero] at qh
      have hxl := (HL2.out X[0] (List.getElem_mem h0)).1
      have MN := hid (fun W => mod_any ((X[0].length : Int) - 1) 9 W (by omega) (by omega) (by omega))
      have hk9 := modN_lt ((X[0].length : Int) - 1) 9 (by omega)
      generalize modN ((X[0].length : Int) - 1) 9 = k2 at *
      generalize X[0].length = r0 at *
      have qh1 := (HB1.out.cell (p := ⟨g0, o0, none⟩) hg0).trans qh
      subst ha0
      go_wp2_with fail
      refine (MN.out w1).mono ?_
      rintro e w2 ⟨rfl, rfl⟩
      go_wp2_with fail
      obtain ⟨n, hn⟩ : ∃ n, n = 1 + k2 := ⟨_, rfl⟩
      obtain ⟨K, hK⟩ : ∃ K, K = 1 + k := ⟨_, rfl⟩
      have hn1 : 1 ≤ n := by omega
      have hn9 : n ≤ 9 := by omega
      rw [show (1 + (k : Int)) = (K : Int) by omega]
      rw [show (1 + (k2 : Int)) = (n : Int) by omega]
      have hK4 : K ≤ 4 := by omega
      have hK1 : 1 ≤ K := by omega
      have HN := hid hn
      have HK := hid hK
      clear hn hK
      go_loopw [6, 7] (fun out bv W => ∃ (b : Nat) (Ms : List (List Nat)), bv = .int .i64 b ∧ b ≤ K ∧ Ms.length = b ∧ Hid (∀ r ∈ Ms, r.length = n ∧ ∀ x ∈ r, x < n) ∧ Hid (Tab w W out (intM Ms))) (fun _ bv _ => K - (intOf bv).toNat)
      case atStart => exact ⟨0, [], rfl, by omega, rfl, fun r h => by simp at h, (Tab.start w).next' HB1.out⟩
      case round =>
        obtain ⟨b, Ms, rfl, hb, hMs, HMS, HT⟩ := hrel
        obtain ⟨W0, rfl⟩ : ∃ W0, W0 = wr := ⟨_, rfl⟩
        have hsz := HT.out.below.size
        by_cases hlt : b < K
        · have hmk2 : ∀ W : World, (Instr.makeSlice 38 (.int .i64 (n : Int)) (.int .i64 (n : Int))).run Tryd.prog W = .ok (.slice (some ⟨W.heap.size, 0, none⟩) n n) (W.alloc (.cells (rowA (fun _ => 0) n) 3)) := by
            intro W
            have hmk := run_make_row' (P := Tryd.prog) 38 3 (.int .i64 0) 8 Tryd.underlying38 Tryd.info3 rfl .i64 .i64 n (by omega) (by omega) W
            rw [← rowA_made]; exact hmk
          have hlen : (intM Ms).length = b := by rw [intM_length, hMs]
          obtain ⟨vs, hvs⟩ := HT.out.ex
          have HVS := hid hvs
          have HLEN := hid hlen
          have HMSL := hid hMs
          have MM := hid (fun (x : Int) (W : World) (hx : -9223372036854775808 ≤ x ∧ x ≤ 9223372036854775807) => mod_any x n W (by omega) (by omega) hx)
          clear hvs hlen hMs
          by_cases hbX : b < X.length
          · obtain ⟨g, o, b1, c3, ha, hg, q1, hin, -, -⟩ := (HR.out W0 HT.out.below).at b X[b] (List.getElem?_eq_getElem hbX)
            first
              | (obtain ⟨e1, e2⟩ : g0 = g ∧ o0 = o := by simpa using ha
                 subst g0 o0)
              | subst ha
            have HX2 := hid (HL2.out X[b] (List.getElem_mem hbX))
            obtain ⟨row, hrow⟩ : ∃ row, row = X[b] := ⟨_, rfl⟩
            rw [← hrow] at q1 hin HX2
            have HIN := hid hin
            have hrl := HX2.out.1
            clear hin hrow
            go_wp2_with fail
            go_loopw [9] (fun qv W => ∃ (q : Nat) (f : Nat → Nat), qv = .int .i64 q ∧ q ≤ n ∧ Hid (∀ i, f i < n) ∧ Below W0.heap.size W0 W ∧ Blk W W0.heap.size (rowA (fun i => (f i : Int)) n) 3) (fun qv _ => n - (intOf qv).toNat)
            case atStart => exact ⟨0, fun _ => 0, rfl, by omega, fun _ => hn1, (Below.refl _ W0).alloc (Nat.le_refl _) _, Blk.new W0 _ _⟩
            case round =>
              obtain ⟨q, f, rfl, hq, HF, hBw, hBlk⟩ := hrel
              have hBw := hid hBw
              have hBlk := hid hBlk
              have q2 := (hBw.out.cell (p := ⟨g, o + b, none⟩) hg).trans q1
              by_cases hqn : q < n
              · by_cases hqr : q < row.length
                · obtain ⟨x, hx, -⟩ := list_drop_cons row q hqr
                  obtain ⟨g2, o2, rfl, hg2, hcell⟩ := HIN.out.at (by omega)
                  have q3 := (hBw.out.cell (p := ⟨g2, o2 + q, none⟩) hg2).trans (hcell q x hx)
                  have C := hid (MM.out x wr (HX2.out.2 x (List.mem_of_getElem? hx)))
                  have hxn := modN_lt x n (by omega)
                  obtain ⟨y, hy⟩ : ∃ y, y = modN x n := ⟨_, rfl⟩
                  rw [← hy] at C hxn
                  have c5 := hBlk.out.rowAt q hqn
                  have f5 := hBlk.out.free q
                  have hput := hBlk.out.rowPut (g := fun i => (((fun i => if i = q then y else f i) i : Nat) : Int)) q (y : Int) (fun i _ => by dsimp only; split <;> rfl)
                  have HPUT := hid hput
                  have HF2 := hid (show ∀ i, (fun i => if i = q then y else f i) i < n from fun i => by
                    dsimp only
                    split
                    · exact hxn
                    · exact HF.out i)
                  have HBW2 := hid (show Below W0.heap.size W0 (wr.setCell ⟨W0.heap.size, q, none⟩ (.int .i64 (y : Int))) from hBw.out.setCell (Nat.le_refl _) _)
                  clear hy hcell hx hput
                  go_wp2_with fail
                  refine C.out.mono ?_
                  rintro e w5 ⟨rfl, rfl⟩
                  go_wp2_with fail
                  exact ⟨⟨q + 1, _, by go_num, by omega, HF2, HBW2.out, HPUT.out⟩, by simp [intOf]; omega⟩
                · have dq : decide ((q : Int) < (row.length : Int)) = false := decide_eq_false (by omega)
                  obtain ⟨hrl2, hr2⟩ : (((rowN f n).map fun (x : Nat) => (x : Int)).length = n) ∧ wr.ownsRow W0.heap.size 3 1 (.slice (some ⟨W0.heap.size, 0, none⟩) n n) n (((rowN f n).map fun (x : Nat) => (x : Int)).map (Value.int .i64)) := ⟨by rw [List.length_map, rowN_len], by rw [← rowA_list]; exact own_row hBlk.out (rowA_size _ _) (Nat.le_refl _) (by omega)⟩
                  have hv2 := (ownsRow_low HVS.out.1 hBw.out (Nat.le_refl _)).alloc (.cells #[.slice (some ⟨W0.heap.size, 0, none⟩) n n] 38)
                  have hbs := hBw.out.size
                  go_wp2_with (at_builtin; go_must (refine wpList_appN _ rfl (.tmp 69) (.tmp 71) 22 rfl w.heap.size 38 (.slice none 0 0) 1 24 Tryd.underlying22 Tryd.info38 rfl (by decide) _ (intM Ms).length vs rfl hv2 ⟨wr.heap.size, 0, none⟩ 1 1 [.slice (some ⟨W0.heap.size, 0, none⟩) n n] rfl rfl (cells_new wr _ 38) (by simp [Value.oneCell']) (by rw [HLEN.out]; omega) (by decide) (by simp; omega) (by decide) ?_))
                  intro v' w4 hown' hgrow hwh
                  have hadd := HT.out.add (W1 := wr) (W2 := w4) (v' := v') (r := (rowN f n).map fun (x : Nat) => (x : Int)) (b := some ⟨W0.heap.size, 0, none⟩) (c := n) hBw.out (by rw [hrl2]; exact hr2) (.cells #[.slice (some ⟨W0.heap.size, 0, none⟩) n n] 38) HVS.out (by rw [hrl2]; exact hown') hgrow hwh
                  rw [intM_snoc] at hadd
                  have HADD := hid hadd
                  have HMS2 := hid (show ∀ r ∈ Ms ++ [rowN f n], r.length = n ∧ ∀ x ∈ r, x < n from fun r hr => by
                    rcases List.mem_append.1 hr with h | h
                    · exact HMS.out r h
                    · rw [List.mem_singleton.1 h]
                      refine ⟨rowN_len f n, fun x hx => ?_⟩
                      obtain ⟨i, -, rfl⟩ := List.mem_map.1 hx
                      exact HF.out i)
                  clear hadd hown' hgrow hwh hv2 hr2 hrl2
                  go_wp2_with fail
                  exact ⟨⟨b + 1, Ms ++ [rowN f n], by go_num, by omega, by rw [List.length_append, HMSL.out]; rfl, HMS2, HADD⟩, by simp [intOf]; omega⟩
              · have dq : decide ((q : Int) < (n : Int)) = false := decide_eq_false (by omega)
                obtain ⟨hrl2, hr2⟩ : (((rowN f n).map fun (x : Nat) => (x : Int)).length = n) ∧ wr.ownsRow W0.heap.size 3 1 (.slice (some ⟨W0.heap.size, 0, none⟩) n n) n (((rowN f n).map fun (x : Nat) => (x : Int)).map (Value.int .i64)) := ⟨by rw [List.length_map, rowN_len], by rw [← rowA_list]; exact own_row hBlk.out (rowA_size _ _) (Nat.le_refl _) (by omega)⟩
                have hv2 := (ownsRow_low HVS.out.1 hBw.out (Nat.le_refl _)).alloc (.cells #[.slice (some ⟨W0.heap.size, 0, none⟩) n n] 38)
                have hbs := hBw.out.size
                go_wp2_with (at_builtin; go_must (refine wpList_appN _ rfl (.tmp 69) (.tmp 71) 22 rfl w.heap.size 38 (.slice none 0 0) 1 24 Tryd.underlying22 Tryd.info38 rfl (by decide) _ (intM Ms).length vs rfl hv2 ⟨wr.heap.size, 0, none⟩ 1 1 [.slice (some ⟨W0.heap.size, 0, none⟩) n n] rfl rfl (cells_new wr _ 38) (by simp [Value.oneCell']) (by rw [HLEN.out]; omega) (by decide) (by simp; omega) (by decide) ?_))
                intro v' w4 hown' hgrow hwh
                have hadd := HT.out.add (W1 := wr) (W2 := w4) (v' := v') (r := (rowN f n).map fun (x : Nat) => (x : Int)) (b := some ⟨W0.heap.size, 0, none⟩) (c := n) hBw.out (by rw [hrl2]; exact hr2) (.cells #[.slice (some ⟨W0.heap.size, 0, none⟩) n n] 38) HVS.out (by rw [hrl2]; exact hown') hgrow hwh
                rw [intM_snoc] at hadd
                have HADD := hid hadd
                have HMS2 := hid (show ∀ r ∈ Ms ++ [rowN f n], r.length = n ∧ ∀ x ∈ r, x < n from fun r hr => by
                  rcases List.mem_append.1 hr with h | h
                  · exact HMS.out r h
                  · rw [List.mem_singleton.1 h]
                    refine ⟨rowN_len f n, fun x hx => ?_⟩
                    obtain ⟨i, -, rfl⟩ := List.mem_map.1 hx
                    exact HF.out i)
                clear hadd hown' hgrow hwh hv2 hr2 hrl2
                go_wp2_with fail
                exact ⟨⟨b + 1, Ms ++ [rowN f n], by go_num, by omega, by rw [List.length_append, HMSL.out]; rfl, HMS2, HADD⟩, by simp [intOf]; omega⟩
          · have db : decide ((b : Int) < (X.length : Int)) = false := decide_eq_false (by omega)
            go_wp2_with fail
            go_loopw [9] (fun qv W => ∃ (q : Nat) (f : Nat → Nat), qv = .int .i64 q ∧ q ≤ n ∧ Hid (∀ i, f i < n) ∧ Below W0.heap.size W0 W ∧ Blk W W0.heap.size (rowA (fun i => (f i : Int)) n) 3) (fun qv _ => n - (intOf qv).toNat)
            case atStart => exact ⟨0, fun _ => 0, rfl, by omega, fun _ => hn1, (Below.refl _ W0).alloc (Nat.le_refl _) _, Blk.new W0 _ _⟩
            case round =>
              obtain ⟨q, f, rfl, hq, HF, hBw, hBlk⟩ := hrel
              have hBw := hid hBw
              have hBlk := hid hBlk
              by_cases hqn : q < n
              · have dq : decide ((q : Int) < (n : Int)) = true := decide_eq_true (by omega)
                obtain ⟨hrl2, hr2⟩ : (((rowN f n).map fun (x : Nat) => (x : Int)).length = n) ∧ wr.ownsRow W0.heap.size 3 1 (.slice (some ⟨W0.heap.size, 0, none⟩) n n) n (((rowN f n).map fun (x : Nat) => (x : Int)).map (Value.int .i64)) := ⟨by rw [List.length_map, rowN_len], by rw [← rowA_list]; exact own_row hBlk.out (rowA_size _ _) (Nat.le_refl _) (by omega)⟩
                have hv2 := (ownsRow_low HVS.out.1 hBw.out (Nat.le_refl _)).alloc (.cells #[.slice (some ⟨W0.heap.size, 0, none⟩) n n] 38)
                have hbs := hBw.out.size
                go_wp2_with (at_builtin; go_must (refine wpList_appN _ rfl (.tmp 69) (.tmp 71) 22 rfl w.heap.size 38 (.slice none 0 0) 1 24 Tryd.underlying22 Tryd.info38 rfl (by decide) _ (intM Ms).length vs rfl hv2 ⟨wr.heap.size, 0, none⟩ 1 1 [.slice (some ⟨W0.heap.size, 0, none⟩) n n] rfl rfl (cells_new wr _ 38) (by simp [Value.oneCell']) (by rw [HLEN.out]; omega) (by decide) (by simp; omega) (by decide) ?_))
                intro v' w4 hown' hgrow hwh
                have hadd := HT.out.add (W1 := wr) (W2 := w4) (v' := v') (r := (rowN f n).map fun (x : Nat) => (x : Int)) (b := some ⟨W0.heap.size, 0, none⟩) (c := n) hBw.out (by rw [hrl2]; exact hr2) (.cells #[.slice (some ⟨W0.heap.size, 0, none⟩) n n] 38) HVS.out (by rw [hrl2]; exact hown') hgrow hwh
                rw [intM_snoc] at hadd
                have HADD := hid hadd
                have HMS2 := hid (show ∀ r ∈ Ms ++ [rowN f n], r.length = n ∧ ∀ x ∈ r, x < n from fun r hr => by
                  rcases List.mem_append.1 hr with h | h
                  · exact HMS.out r h
                  · rw [List.mem_singleton.1 h]
                    refine ⟨rowN_len f n, fun x hx => ?_⟩
                    obtain ⟨i, -, rfl⟩ := List.mem_map.1 hx
                    exact HF.out i)
                clear hadd hown' hgrow hwh hv2 hr2 hrl2
                go_wp2_with fail
                exact ⟨⟨b + 1, Ms ++ [rowN f n], by go_num, by omega, by rw [List.length_append, HMSL.out]; rfl, HMS2, HADD⟩, by simp [intOf]; omega⟩
              · have dq : decide ((q : Int) < (n : Int)) = false := decide_eq_false (by omega)
                obtain ⟨hrl2, hr2⟩ : (((rowN f n).map fun (x : Nat) => (x : Int)).length = n) ∧ wr.ownsRow W0.heap.size 3 1 (.slice (some ⟨W0.heap.size, 0, none⟩) n n) n (((rowN f n).map fun (x : Nat) => (x : Int)).map (Value.int .i64)) := ⟨by rw [List.length_map, rowN_len], by rw [← rowA_list]; exact own_row hBlk.out (rowA_size _ _) (Nat.le_refl _) (by omega)⟩
                have hv2 := (ownsRow_low HVS.out.1 hBw.out (Nat.le_refl _)).alloc (.cells #[.slice (some ⟨W0.heap.size, 0, none⟩) n n] 38)
                have hbs := hBw.out.size
                go_wp2_with (at_builtin; go_must (refine wpList_appN _ rfl (.tmp 69) (.tmp 71) 22 rfl w.heap.size 38 (.slice none 0 0) 1 24 Tryd.underlying22 Tryd.info38 rfl (by decide) _ (intM Ms).length vs rfl hv2 ⟨wr.heap.size, 0, none⟩ 1 1 [.slice (some ⟨W0.heap.size, 0, none⟩) n n] rfl rfl (cells_new wr _ 38) (by simp [Value.oneCell']) (by rw [HLEN.out]; omega) (by decide) (by simp; omega) (by decide) ?_))
                intro v' w4 hown' hgrow hwh
                have hadd := HT.out.add (W1 := wr) (W2 := w4) (v' := v') (r := (rowN f n).map fun (x : Nat) => (x : Int)) (b := some ⟨W0.heap.size, 0, none⟩) (c := n) hBw.out (by rw [hrl2]; exact hr2) (.cells #[.slice (some ⟨W0.heap.size, 0, none⟩) n n] 38) HVS.out (by rw [hrl2]; exact hown') hgrow hwh
                rw [intM_snoc] at hadd
                have HADD := hid hadd
                have HMS2 := hid (show ∀ r ∈ Ms ++ [rowN f n], r.length = n ∧ ∀ x ∈ r, x < n from fun r hr => by
                  rcases List.mem_append.1 hr with h | h
                  · exact HMS.out r h
                  · rw [List.mem_singleton.1 h]
                    refine ⟨rowN_len f n, fun x hx => ?_⟩
                    obtain ⟨i, -, rfl⟩ := List.mem_map.1 hx
                    exact HF.out i)
                clear hadd hown' hgrow hwh hv2 hr2 hrl2
                go_wp2_with fail
                exact ⟨⟨b + 1, Ms ++ [rowN f n], by go_num, by omega, by rw [List.length_append, HMSL.out]; rfl, HMS2, HADD⟩, by simp [intOf]; omega⟩
        · have hbK : b = K := by omega
          obtain ⟨vs, hvs, -⟩ := HT.out.ex
          obtain ⟨a9, c9, rfl, -, -⟩ := ownsRow_vals hvs
          have hvl := Tab.vs_len hvs
          rw [hvl, intM_length] at HT ⊢
          have HOK := hid (show OkM Ms from by
            have hn0 : nst Ms = n := by
              unfold nst
              cases Ms with
              | nil => simp at hMs; omega
              | cons r R => exact (HMS.out r (List.mem_cons_self ..)).1
            exact ⟨by omega, by omega, by omega, by omega, fun r hr => by rw [hn0]; exact (HMS.out r hr).1, fun r hr x hx => by rw [hn0]; exact (HMS.out r hr).2 x hx⟩)
          clear hvs hvl
          go_wp2_with fail
          go_ret
          exact ⟨Ms, a9, c9, HOK.out, rfl, HT⟩
    · go_wp2_with fail
      obtain ⟨n, hn⟩ : ∃ n, n = 3 := ⟨_, rfl⟩
      obtain ⟨K, hK⟩ : ∃ K, K = 1 + k := ⟨_, rfl⟩
      have hn1 : 1 ≤ n := by omega
      have hn9 : n ≤ 9 := by omega
      rw [show (1 + (k : Int)) = (K : Int) by omega]
      rw [show (3 : Int) = (n : Int) by omega]
      have hK4 : K ≤ 4 := by omega
      have hK1 : 1 ≤ K := by omega
      have HN := hid hn
      have HK := hid hK
      clear hn hK
      go_loopw [6, 7] (fun out bv W => ∃ (b : Nat) (Ms : List (List Nat)), bv = .int .i64 b ∧ b ≤ K ∧ Ms.length = b ∧ Hid (∀ r ∈ Ms, r.length = n ∧ ∀ x ∈ r, x < n) ∧ Hid (Tab w W out (intM Ms))) (fun _ bv _ => K - (intOf bv).toNat)
      case atStart => exact ⟨0, [], rfl, by omega, rfl, fun r h => by simp at h, (Tab.start w).next' HB1.out⟩
      case round =>
        obtain ⟨b, Ms, rfl, hb, hMs, HMS, HT⟩ := hrel
        obtain ⟨W0, rfl⟩ : ∃ W0, W0 = wr := ⟨_, rfl⟩
        have hsz := HT.out.below.size
        by_cases hlt : b < K
        · have hmk2 : ∀ W : World, (Instr.makeSlice 38 (.int .i64 (n : Int)) (.int .i64 (n : Int))).run Tryd.prog W = .ok (.slice (some ⟨W.heap.size, 0, none⟩) n n) (W.alloc (.cells (rowA (fun _ => 0) n) 3)) := by
            intro W
            have hmk := run_make_row' (P := Tryd.prog) 38 3 (.int .i64 0) 8 Tryd.underlying38 Tryd.info3 rfl .i64 .i64 n (by omega) (by omega) W
            rw [← rowA_made]; exact hmk
          have hlen : (intM Ms).length = b := by rw [intM_length, hMs]
          obtain ⟨vs, hvs⟩ := HT.out.ex
          have HVS := hid hvs
          have HLEN := hid hlen
          have HMSL := hid hMs
          have MM := hid (fun (x : Int) (W : World) (hx : -9223372036854775808 ≤ x ∧ x ≤ 9223372036854775807) => mod_any x n W (by omega) (by omega) hx)
          clear hvs hlen hMs
          by_cases hbX : b < X.length
          · exfalso; omega
          · have db : decide ((b : Int) < (X.length : Int)) = false := decide_eq_false (by omega)
            go_wp2_with fail
            go_loopw [9] (fun qv W => ∃ (q : Nat) (f : Nat → Nat), qv = .int .i64 q ∧ q ≤ n ∧ Hid (∀ i, f i < n) ∧ Below W0.heap.size W0 W ∧ Blk W W0.heap.size (rowA (fun i => (f i : Int)) n) 3) (fun qv _ => n - (intOf qv).toNat)
            case atStart => exact ⟨0, fun _ => 0, rfl, by omega, fun _ => hn1, (Below.refl _ W0).alloc (Nat.le_refl _) _, Blk.new W0 _ _⟩
            case round =>
              obtain ⟨q, f, rfl, hq, HF, hBw, hBlk⟩ := hrel
              have hBw := hid hBw
              have hBlk := hid hBlk
              by_cases hqn : q < n
              · have dq : decide ((q : Int) < (n : Int)) = true := decide_eq_true (by omega)
                obtain ⟨hrl2, hr2⟩ : (((rowN f n).map fun (x : Nat) => (x : Int)).length = n) ∧ wr.ownsRow W0.heap.size 3 1 (.slice (some ⟨W0.heap.size, 0, none⟩) n n) n (((rowN f n).map fun (x : Nat) => (x : Int)).map (Value.int .i64)) := ⟨by rw [List.length_map, rowN_len], by rw [← rowA_list]; exact own_row hBlk.out (rowA_size _ _) (Nat.le_refl _) (by omega)⟩
                have hv2 := (ownsRow_low HVS.out.1 hBw.out (Nat.le_refl _)).alloc (.cells #[.slice (some ⟨W0.heap.size, 0, none⟩) n n] 38)
                have hbs := hBw.out.size
                go_wp2_with (at_builtin; go_must (refine wpList_appN _ rfl (.tmp 69) (.tmp 71) 22 rfl w.heap.size 38 (.slice none 0 0) 1 24 Tryd.underlying22 Tryd.info38 rfl (by decide) _ (intM Ms).length vs rfl hv2 ⟨wr.heap.size, 0, none⟩ 1 1 [.slice (some ⟨W0.heap.size, 0, none⟩) n n] rfl rfl (cells_new wr _ 38) (by simp [Value.oneCell']) (by rw [HLEN.out]; omega) (by decide) (by simp; omega) (by decide) ?_))
                intro v' w4 hown' hgrow hwh
                have hadd := HT.out.add (W1 := wr) (W2 := w4) (v' := v') (r := (rowN f n).map fun (x : Nat) => (x : Int)) (b := some ⟨W0.heap.size, 0, none⟩) (c := n) hBw.out (by rw [hrl2]; exact hr2) (.cells #[.slice (some ⟨W0.heap.size, 0, none⟩) n n] 38) HVS.out (by rw [hrl2]; exact hown') hgrow hwh
                rw [intM_snoc] at hadd
                have HADD := hid hadd
                have HMS2 := hid (show ∀ r ∈ Ms ++ [rowN f n], r.length = n ∧ ∀ x ∈ r, x < n from fun r hr => by
                  rcases List.mem_append.1 hr with h | h
                  · exact HMS.out r h
                  · rw [List.mem_singleton.1 h]
                    refine ⟨rowN_len f n, fun x hx => ?_⟩
                    obtain ⟨i, -, rfl⟩ := List.mem_map.1 hx
                    exact HF.out i)
                clear hadd hown' hgrow hwh hv2 hr2 hrl2
                go_wp2_with fail
                exact ⟨⟨b + 1, Ms ++ [rowN f n], by go_num, by omega, by rw [List.length_append, HMSL.out]; rfl, HMS2, HADD⟩, by simp [intOf]; omega⟩
              · have dq : decide ((q : Int) < (n : Int)) = false := decide_eq_false (by omega)
                obtain ⟨hrl2, hr2⟩ : (((rowN f n).map fun (x : Nat) => (x : Int)).length = n) ∧ wr.ownsRow W0.heap.size 3 1 (.slice (some ⟨W0.heap.size, 0, none⟩) n n) n (((rowN f n).map fun (x : Nat) => (x : Int)).map (Value.int .i64)) := ⟨by rw [List.length_map, rowN_len], by rw [← rowA_list]; exact own_row hBlk.out (rowA_size _ _) (Nat.le_refl _) (by omega)⟩
                have hv2 := (ownsRow_low HVS.out.1 hBw.out (Nat.le_refl _)).alloc (.cells #[.slice (some ⟨W0.heap.size, 0, none⟩) n n] 38)
                have hbs := hBw.out.size
                go_wp2_with (at_builtin; go_must (refine wpList_appN _ rfl (.tmp 69) (.tmp 71) 22 rfl w.heap.size 38 (.slice none 0 0) 1 24 Tryd.underlying22 Tryd.info38 rfl (by decide) _ (intM Ms).length vs rfl hv2 ⟨wr.heap.size, 0, none⟩ 1 1 [.slice (some ⟨W0.heap.size, 0, none⟩) n n] rfl rfl (cells_new wr _ 38) (by simp [Value.oneCell']) (by rw [HLEN.out]; omega) (by decide) (by simp; omega) (by decide) ?_))
                intro v' w4 hown' hgrow hwh
                have hadd := HT.out.add (W1 := wr) (W2 := w4) (v' := v') (r := (rowN f n).map fun (x : Nat) => (x : Int)) (b := some ⟨W0.heap.size, 0, none⟩) (c := n) hBw.out (by rw [hrl2]; exact hr2) (.cells #[.slice (some ⟨W0.heap.size, 0, none⟩) n n] 38) HVS.out (by rw [hrl2]; exact hown') hgrow hwh
                rw [intM_snoc] at hadd
                have HADD := hid hadd
                have HMS2 := hid (show ∀ r ∈ Ms ++ [rowN f n], r.length = n ∧ ∀ x ∈ r, x < n from fun r hr => by
                  rcases List.mem_append.1 hr with h | h
                  · exact HMS.out r h
                  · rw [List.mem_singleton.1 h]
                    refine ⟨rowN_len f n, fun x hx => ?_⟩
                    obtain ⟨i, -, rfl⟩ := List.mem_map.1 hx
                    exact HF.out i)
                clear hadd hown' hgrow hwh hv2 hr2 hrl2
                go_wp2_with fail
                exact ⟨⟨b + 1, Ms ++ [rowN f n], by go_num, by omega, by rw [List.length_append, HMSL.out]; rfl, HMS2, HADD⟩, by simp [intOf]; omega⟩
        · have hbK : b = K := by omega
          obtain ⟨vs, hvs, -⟩ := HT.out.ex
          obtain ⟨a9, c9, rfl, -, -⟩ := ownsRow_vals hvs
          have hvl := Tab.vs_len hvs
          rw [hvl, intM_length] at HT ⊢
          have HOK := hid (show OkM Ms from by
            have hn0 : nst Ms = n := by
              unfold nst
              cases Ms with
              | nil => simp at hMs; omega
              | cons r R => exact (HMS.out r (List.mem_cons_self ..)).1
            exact ⟨by omega, by omega, by omega, by omega, fun r hr => by rw [hn0]; exact (HMS.out r hr).1, fun r hr x hx => by rw [hn0]; exact (HMS.out r hr).2 x hx⟩)
          clear hvs hvl
          go_wp2_with fail
          go_ret
          exact ⟨Ms, a9, c9, HOK.out, rfl, HT⟩
end Go.Proofs.YthlgdakdjikjhaaDoor
/-
  Walks: lists that are sets of states.
-/
namespace Go.Proofs.YthlgdakdjikjhaaDoor
open Go.RowKit Go.ChangeMaps
attribute [local go_sem] Oper.semAt_some

def setRV (b : Bool) (s : Nat) : Value := if b then .tuple #[.int .i64 s, .bool true] else .tuple #[.int .i64 0, .bool false]
theorem prevA_some {l : List Int} {i : Nat} (h : 0 < i) (hi : i ≤ l.length) : ∃ p, prevA l i = some p ∧ l[i - 1]? = some p := by
  obtain ⟨j, rfl⟩ : ∃ j, i = j + 1 := ⟨i - 1, by omega⟩
  exact ⟨l[j], List.getElem?_eq_getElem (by omega), List.getElem?_eq_getElem (by omega)⟩
theorem okQ_split {n i : Nat} {l : List Int} {q : Int} (hi : i ≤ l.length) :
    (¬ (0 ≤ q ∧ q ≤ (n : Int) - 1) ∧ okQ n (prevA l i) q = false) ∨
    (0 ≤ q ∧ q ≤ (n : Int) - 1 ∧ i = 0 ∧ okQ n (prevA l i) q = true) ∨
    (0 ≤ q ∧ q ≤ (n : Int) - 1 ∧ 0 < i ∧ ∃ p, l[i - 1]? = some p ∧ ((q ≤ p ∧ okQ n (prevA l i) q = false) ∨ (p < q ∧ okQ n (prevA l i) q = true))) := by
  by_cases h : 0 ≤ q ∧ q ≤ (n : Int) - 1
  · right
    rcases Nat.eq_zero_or_pos i with h0 | h0
    · left
      subst h0
      exact ⟨h.1, h.2, rfl, (okQ_iff _ _ _).2 ⟨h.1, by omega, fun x hx => by cases hx⟩⟩
    · right
      obtain ⟨p, h1, h2⟩ := prevA_some h0 hi
      refine ⟨h.1, h.2, h0, p, h2, ?_⟩
      rcases Int.lt_or_le p q with h3 | h3
      · exact .inr ⟨h3, (okQ_iff _ _ _).2 ⟨h.1, by omega, fun x hx => by rw [h1] at hx; cases hx; exact h3⟩⟩
      · left
        refine ⟨h3, ?_⟩
        cases hq : okQ n (prevA l i) q with
        | false => rfl
        | true =>
          have := ((okQ_iff _ _ _).1 hq).2.2 p h1
          omega
  · left
    refine ⟨h, ?_⟩
    cases hq : okQ n (prevA l i) q with
    | false => rfl
    | true =>
      have := (okQ_iff _ _ _).1 hq
      exact absurd ⟨this.1, by omega⟩ h

set_option maxRecDepth 100000 in
set_option maxHeartbeats 4000000 in
theorem set_any (a : Option Addr) (c : Nat) (M : List (List Nat)) (a' : Option Addr) (c' : Nat) (l : List Int) (w : World) (hM : OkM M) (hr : RowsAt w a (intM M)) (hl : Ints w a' l) (hll : l.length ≤ 1000) :
    Calls Tryd.prog 57 #[.slice a M.length c, .slice a' l.length c'] w fun e w' => e = .returned (setRV (setB (nst M) l) (numL l)) ∧ w = w' := by
  have hn9 := hM.n9
  have hm1 := hM.b1
  obtain ⟨g, o, b1, c1, rfl, hg, q1⟩ := head_at hM hr
  have hbn := num_lt (n := nst M) (l := l)
  generalize nst M = n at *
  have HI := hid hl
  clear hM hr hl
  go_enter Tryd.func57, Tryd.ntmps57
  go_wp2_with fail
  go_loop [6, 11] (fun sv iv => ∃ i s : Nat, sv = .int .i64 s ∧ iv = .int .i64 i ∧ i ≤ l.length ∧ Hid (SetTo n l i s)) (fun _ iv => l.length - (intOf iv).toNat)
  case atStart => exact ⟨0, 0, rfl, rfl, by omega, SetTo.start n l⟩
  case round =>
    obtain ⟨i, s, rfl, rfl, hi, HS⟩ := hrel
    by_cases hlt : i < l.length
    · obtain ⟨q, hx, hd⟩ := list_drop_cons l i hlt
      obtain ⟨g2, o2, rfl, hg2, hcell⟩ := HI.out.at (by omega)
      have q2 := hcell i q hx
      have W1 := within_any q 0 ((n : Int) - 1) w
      rcases okQ_split (n := n) (q := q) hi with ⟨h, hq⟩ | ⟨h1, h2, h3, hq⟩ | ⟨h1, h2, h3, p, hp, hh⟩
      · rw [show (decide ((0 : Int) ≤ q) && decide (q ≤ (n : Int) - 1)) = false by simp; omega] at W1
        have hfin := HS.out.bad hd hq
        have HF := hid hfin
        have W1 := hid W1
        clear hfin hq hd hx hcell h
        go_wp2_with fail
        refine W1.out.mono ?_
        rintro e w2 ⟨rfl, rfl⟩
        go_wp2_with fail
        refine bodyPost_ret (results_tmp2 rfl _ _ _) rfl ?_
        rw [HF.out]
        exact ⟨rfl, rfl⟩
      · rw [show (decide ((0 : Int) ≤ q) && decide (q ≤ (n : Int) - 1)) = true by simp; omega] at W1
        have hst := HS.out.step hx hd hq
        have hbel := HS.out.below hq
        obtain ⟨Q, rfl⟩ := Int.eq_ofNat_of_zero_le h1
        have hs512 : s < 512 := Nat.lt_of_lt_of_le HS.out.lt (Nat.pow_le_pow_right (n := 2) (by omega) hn9)
        have d1 := or_pow s Q hs512 (by omega)
        rw [or_add (by simpa using hbel)] at d1
        have HST := hid hst
        have W1 := hid W1
        have d2 : decide ((i : Int) > 0) = false := decide_eq_false (by omega)
        have hi0 : ¬ 0 < i := by omega
        clear hst hq hd hx hcell h3 hbel
        go_wp2_with fail
        refine W1.out.mono ?_
        rintro e w2 ⟨rfl, rfl⟩
        go_wp2_with fail
        exact ⟨⟨i + 1, s + 2 ^ Q, by go_num, by go_num, by omega, HST⟩, by simp [intOf]; omega⟩
      · rw [show (decide ((0 : Int) ≤ q) && decide (q ≤ (n : Int) - 1)) = true by simp; omega] at W1
        have q3 := hcell (i - 1) p hp
        have d2 : decide ((i : Int) > 0) = true := decide_eq_true (by omega)
        have t1 : ((i : Int) - 1) = ((i - 1 : Nat) : Int) := by omega
        have W1 := hid W1
        rcases hh with ⟨h4, hq⟩ | ⟨h4, hq⟩
        · have hfin := HS.out.bad hd hq
          have HF := hid hfin
          have d3 : decide (p ≥ q) = true := decide_eq_true h4
          clear hfin hq hd hx hcell hp
          go_wp2_with fail
          refine W1.out.mono ?_
          rintro e w2 ⟨rfl, rfl⟩
          go_wp2_with fail
          refine bodyPost_ret (results_tmp2 rfl _ _ _) rfl ?_
          rw [HF.out]
          exact ⟨rfl, rfl⟩
        · have hst := HS.out.step hx hd hq
          have hbel := HS.out.below hq
          obtain ⟨Q, rfl⟩ := Int.eq_ofNat_of_zero_le h1
          have hs512 : s < 512 := Nat.lt_of_lt_of_le HS.out.lt (Nat.pow_le_pow_right (n := 2) (by omega) hn9)
          have d1 := or_pow s Q hs512 (by omega)
          rw [or_add (by simpa using hbel)] at d1
          have HST := hid hst
          have d3 : decide (p ≥ (Q : Int)) = false := decide_eq_false (by omega)
          clear hst hq hd hx hcell hbel hp
          go_wp2_with fail
          refine W1.out.mono ?_
          rintro e w2 ⟨rfl, rfl⟩
          go_wp2_with fail
          exact ⟨⟨i + 1, s + 2 ^ Q, by go_num, by go_num, by omega, HST⟩, by simp [intOf]; omega⟩
    · obtain ⟨k1, k2, -⟩ := HS.out.done (by omega)
      have HF := hid k1
      have HN := hid k2
      clear k1 k2
      go_wp2_with fail
      refine bodyPost_ret (results_tmp2 rfl _ _ _) rfl ?_
      rw [HF.out, HN.out]
      exact ⟨rfl, rfl⟩

set_option maxRecDepth 100000 in
set_option maxHeartbeats 4000000 in
theorem refSet_any (a : Option Addr) (c : Nat) (M : List (List Nat)) (a' : Option Addr) (c' : Nat) (l : List Int) (w : World) (hM : OkM M) (hr : RowsAt w a (intM M)) (hl : Ints w a' l) (hll : l.length ≤ 1000) :
    Calls Tryd.prog 32 #[.slice a M.length c, .slice a' l.length c'] w fun e w' => e = .returned (.bool (setB (nst M) l)) ∧ Below w.heap.size w w' := by
  have hn9 := hM.n9
  have hm1 := hM.b1
  obtain ⟨g, o, b1, c1, rfl, hg, q1⟩ := head_at hM hr
  generalize nst M = n at *
  have HI := hid hl
  clear hM hr hl
  go_enter Tryd.func32, Tryd.ntmps32
  go_wp2_with fail
  go_loopw [5] (fun iv W => ∃ i s : Nat, iv = .int .i64 i ∧ i ≤ l.length ∧ Below w.heap.size w W ∧ Hid (SetTo n l i s)) (fun iv _ => l.length - (intOf iv).toNat)
  case atStart => exact ⟨0, 0, rfl, by omega, Below.refl _ _, SetTo.start n l⟩
  case round =>
    obtain ⟨i, s, rfl, hi, hB, HS⟩ := hrel
    by_cases hlt : i < l.length
    · obtain ⟨q, hx, hd⟩ := list_drop_cons l i hlt
      obtain ⟨g2, o2, rfl, hg2, hcell⟩ := HI.out.at (by omega)
      have q2 := (hB.cell (p := ⟨g2, o2 + i, none⟩) hg2).trans (hcell i q hx)
      have q5 := (hB.cell (p := ⟨g, o, none⟩) hg).trans q1
      rcases okQ_split (n := n) (q := q) hi with ⟨h, hq⟩ | ⟨h1, h2, h3, hq⟩ | ⟨h1, h2, h3, p, hp, hh⟩
      · by_cases h0 : q < 0
        · have d1 : decide (q < 0) = true := decide_eq_true h0
          clear h
          have hfin := HS.out.bad hd hq
          have HF := hid hfin
          have HB := hid hB
          clear hfin hq hd hx hcell hB
          go_wp2_with fail
          go_quiet (fail)
          have HB2 := hid (below_drewN HB.out nq)
          go_wp2_with fail
          go_ret
          exact ⟨ret_bool HF.out.symm, HB2.out⟩
        · have d1 : decide (q < 0) = false := decide_eq_false h0
          have d2 : decide (q ≥ (n : Int)) = true := decide_eq_true (by omega)
          clear h
          have hfin := HS.out.bad hd hq
          have HF := hid hfin
          have HB := hid hB
          clear hfin hq hd hx hcell hB
          go_wp2_with fail
          go_quiet (fail)
          have HB2 := hid (below_drewN HB.out nq)
          go_wp2_with fail
          go_ret
          exact ⟨ret_bool HF.out.symm, HB2.out⟩
      · have d1 : decide (q < 0) = false := decide_eq_false (by omega)
        have d2 : decide (q ≥ (n : Int)) = false := decide_eq_false (by omega)
        have d3 : decide ((i : Int) > 0) = false := decide_eq_false (by omega)
        have d4 : decide (0 < i) = false := decide_eq_false (by omega)
        clear h3
        have hst := HS.out.step hx hd hq
        have HST := hid hst
        have HB := hid hB
        clear hst hq hd hx hcell hB
        go_wp2_with fail
        go_quiet (fail)
        have HB2 := hid (below_drewN HB.out nq)
        go_wp2_with fail
        exact ⟨⟨i + 1, _, by go_num, by omega, HB2.out, HST⟩, by simp [intOf]; omega⟩
      · have d1 : decide (q < 0) = false := decide_eq_false (by omega)
        have d2 : decide (q ≥ (n : Int)) = false := decide_eq_false (by omega)
        have d3 : decide ((i : Int) > 0) = true := decide_eq_true (by omega)
        have d4 : decide (0 < i) = true := decide_eq_true (by omega)
        have q3 := (hB.cell (p := ⟨g2, o2 + (i - 1), none⟩) hg2).trans (hcell (i - 1) p hp)
        have t1 : ((i : Int) - 1) = ((i - 1 : Nat) : Int) := by omega
        rcases hh with ⟨h4, hq⟩ | ⟨h4, hq⟩
        · have d5 : decide (p ≥ q) = true := decide_eq_true h4
          clear hp
          have hfin := HS.out.bad hd hq
          have HF := hid hfin
          have HB := hid hB
          clear hfin hq hd hx hcell hB
          go_wp2_with fail
          go_quiet (fail)
          have HB2 := hid (below_drewN HB.out nq)
          go_wp2_with fail
          go_ret
          exact ⟨ret_bool HF.out.symm, HB2.out⟩
        · have d5 : decide (p ≥ q) = false := decide_eq_false (by omega)
          clear hp
          have hst := HS.out.step hx hd hq
          have HST := hid hst
          have HB := hid hB
          clear hst hq hd hx hcell hB
          go_wp2_with fail
          go_quiet (fail)
          have HB2 := hid (below_drewN HB.out nq)
          go_wp2_with fail
          exact ⟨⟨i + 1, _, by go_num, by omega, HB2.out, HST⟩, by simp [intOf]; omega⟩
    · obtain ⟨k1, k2, -⟩ := HS.out.done (by omega)
      have HF := hid k1
      have HB := hid hB
      clear k1 k2 hB
      go_wp2_with fail
      go_ret
      exact ⟨ret_bool HF.out.symm, HB.out⟩

set_option maxRecDepth 100000 in
set_option maxHeartbeats 4000000 in
theorem refNumber_any (a : Option Addr) (c n : Nat) (l : List Int) (w : World) (hn9 : n ≤ 9) (hl : Ints w a l) (hll : l.length ≤ 1000) (hs : setB n l = true) :
    Calls Tryd.prog 34 #[.slice a l.length c] w fun e w' => e = .returned (.int .i64 (numL l)) ∧ w = w' := by
  have HI := hid hl
  have HSB := hid hs
  clear hl hs
  go_enter Tryd.func34, Tryd.ntmps34
  go_wp2_with fail
  go_loop [3, 4] (fun sv iv => ∃ i s : Nat, sv = .int .i64 s ∧ iv = .int .i64 i ∧ i ≤ l.length ∧ Hid (SetTo n l i s)) (fun _ iv => l.length - (intOf iv).toNat)
  case atStart => exact ⟨0, 0, rfl, rfl, by omega, SetTo.start n l⟩
  case round =>
    obtain ⟨i, s, rfl, rfl, hi, HS⟩ := hrel
    by_cases hlt : i < l.length
    · obtain ⟨q, hx, hd⟩ := list_drop_cons l i hlt
      obtain ⟨g2, o2, rfl, hg2, hcell⟩ := HI.out.at (by omega)
      have q2 := hcell i q hx
      have hq : okQ n (prevA l i) q = true := by
        cases hq : okQ n (prevA l i) q with
        | true => rfl
        | false => have := HS.out.bad hd hq; rw [HSB.out] at this; cases this
      obtain ⟨h1, h2, -⟩ := (okQ_iff _ _ _).1 hq
      have hst := HS.out.step hx hd hq
      obtain ⟨Q, rfl⟩ := Int.eq_ofNat_of_zero_le h1
      have hs512 : s < 512 := Nat.lt_of_lt_of_le HS.out.lt (Nat.pow_le_pow_right (n := 2) (by omega) hn9)
      have hp512 := pow_small Q (by omega)
      have d1 := pow_wrap Q (by omega)
      have HST := hid hst
      have d3 : ((s : Int) + ((2 ^ Q : Nat) : Int)) = ((s + 2 ^ Q : Nat) : Int) := by rw [Int.natCast_add]
      obtain ⟨y, hy⟩ : ∃ y, y = 2 ^ Q := ⟨_, rfl⟩
      have hty : (Q : Int).toNat = Q := by simp
      rw [hty] at HST
      rw [← hy] at d1 d3 HST hp512
      have dd : IntKind.i64.wrap ((s : Int) + wrap64 ((2 : Int) ^ Q)) = ((s + y : Nat) : Int) := by
        rw [d1, d3]; exact IntWalk.i64_in _ (by omega)
      clear hst hq hd hx hcell hy hty d1 d3
      go_wp2_with fail
      exact ⟨⟨i + 1, s + y, rfl, by go_num, by omega, HST⟩, by simp [intOf]; omega⟩
    · obtain ⟨-, k2, -⟩ := HS.out.done (by omega)
      have HN := hid k2
      clear k2
      go_wp2_with fail
      go_ret
      exact ⟨ret_int (by rw [HN.out]), rfl⟩
end Go.Proofs.YthlgdakdjikjhaaDoor
/-
  Walks: Lead, the reference's and the program's.
-/
namespace Go.Proofs.YthlgdakdjikjhaaDoor
open Go.RowKit Go.ChangeMaps
attribute [local go_sem] Oper.semAt_some

/-- Is this the wanted set? -/
def eqB (t q : Nat) : Bool := q == t

set_option maxRecDepth 100000 in
set_option maxHeartbeats 2000000 in
theorem refLead_any (a : Option Addr) (c : Nat) (M : List (List Nat)) (s t : Nat) (w : World) (hM : OkM M) (hr : RowsAt w a (intM M)) (hs : s < 2 ^ nst M) :
    Calls Tryd.prog 33 #[.slice a M.length c, .int .i64 s, .int .i64 t] w fun e w' => ∃ wd : List UInt8, e = .returned (.tuple #[.string (mkS wd), .bool (firstE M s (eqB t)).isSome]) ∧ Hid (∀ x, firstE M s (eqB t) = some x → wd = x.word) ∧ Below w.heap.size w w' := by
  have R := hid (refReached_any a c M s w hM hr hs)
  have hl5 := (reach_good hM hs).len hM
  have hpos := (reach_good hM hs).pos
  have H0 := hid (show firstE M s (eqB t) = ((reach M s).drop 0).find? (fun e => eqB t e.set) by rw [List.drop_zero]; rfl)
  generalize firstE M s (eqB t) = r at *
  generalize reach M s = L at *
  clear hM hr hs
  go_enter Tryd.func33, Tryd.ntmps33
  go_wp2_with fail
  refine R.out.mono ?_
  rintro e w1 ⟨a1, c1, a2, c2, rfl, ho1, ho2, hb1⟩
  obtain ⟨g1, c1', he1, hgb1, hg1, hcell1⟩ := own_at ho1.out hpos
  obtain ⟨g2, c2', he2, hgb2, hg2, hcell2⟩ := own_at ho2.out hpos
  cases he1
  cases he2
  have HB1 := hid hb1
  have HC1 := hid hcell1
  have HC2 := hid hcell2
  clear ho1 ho2 hb1 hcell1 hcell2
  go_wp2_with fail
  go_loop [10] (fun iv => ∃ i : Nat, iv = .int .i64 i ∧ i ≤ L.length ∧ Hid (r = (L.drop i).find? fun e => eqB t e.set)) (fun iv => L.length - (intOf iv).toNat)
  case atStart => exact ⟨0, rfl, by omega, H0⟩
  case round =>
    obtain ⟨i, rfl, hi, H⟩ := hrel
    by_cases hlt : i < L.length
    · obtain ⟨x, hx⟩ : ∃ x, L[i]? = some x := ⟨_, List.getElem?_eq_getElem hlt⟩
      have hd : L.drop i = x :: L.drop (i + 1) := by
        rw [List.drop_eq_getElem_cons hlt]
        rw [List.getElem?_eq_getElem hlt] at hx
        rw [Option.some.inj hx]
      have q1 : w1.cell? ⟨g1, i, none⟩ = some (.int .i64 (x.set : Int)) := HC1.out i (natV x.set) (by rw [List.getElem?_map, hx]; rfl)
      have q2 : w1.cell? ⟨g2, i, none⟩ = some (.string (mkS x.word)) := HC2.out i (wordV x) (by rw [List.getElem?_map, hx]; rfl)
      by_cases he : x.set = t
      · have hfin : r = some x := by
          rw [H.out, hd, List.find?_cons, show eqB t x.set = true by simp [eqB, he]]
        have HF := hid hfin
        have dq : ((x.set : Int) == (t : Int)) = true := beq_iff_eq.2 (by omega)
        clear hfin hd hx he
        go_wp2_with fail
        refine bodyPost_ret (results_tmp2 rfl _ _ _) rfl ?_
        rw [HF.out]
        exact ⟨x.word, rfl, fun y hy => by rw [Option.some.inj hy], HB1.out⟩
      · have hfin : r = (L.drop (i + 1)).find? fun e => eqB t e.set := by
          rw [H.out, hd, List.find?_cons, show eqB t x.set = false by simp [eqB, he]]
        have HF := hid hfin
        have dq : ((x.set : Int) == (t : Int)) = false := beq_eq_false_iff_ne.2 (by omega)
        clear hfin hd hx he
        go_wp2_with fail
        exact ⟨⟨i + 1, by go_num, by omega, HF⟩, by simp [intOf]; omega⟩
    · have hfin : r = none := by
        rw [H.out, List.drop_eq_nil_of_le (by omega)]; rfl
      have HF := hid hfin
      clear hfin
      go_wp2_with fail
      refine bodyPost_ret (results_tmp2 rfl _ _ _) rfl ?_
      rw [HF.out]
      have HV : Hid (∀ x : Ent, (none : Option Ent) = some x → ([] : List UInt8) = x.word) := hid (fun x h => nomatch h)
      exact ⟨[], rfl, HV, HB1.out⟩

theorem in58_any (q t b : Nat) (W : World) (hm : W.cell? ⟨b, 0, none⟩ = some (.int .i64 (t : Int))) :
    Calls Tryd.prog 58 #[.int .i64 q, .pointer (some ⟨b, 0, none⟩)] W fun e w' => e = .returned (.bool (eqB t q)) ∧ Below W.heap.size W w' := by
  go_enter Tryd.func58, Tryd.ntmps58
  go_wp2_with fail
  go_ret
  exact ⟨ret_bool (by unfold eqB; rw [Bool.eq_iff_iff]; simp; omega), Below.refl _ W⟩
theorem enter58 : ∀ args W, (callFunc 58 args).run Tryd.prog W = .ok (.enter 58 args) W := fun args W => by kernel_rfl

set_option maxRecDepth 100000 in
set_option maxHeartbeats 2000000 in
theorem Lead_yes (a : Option Addr) (c : Nat) (M : List (List Nat)) (a1 : Option Addr) (c1 : Nat) (l1 : List Int) (a2 : Option Addr) (c2 : Nat) (l2 : List Int) (w : World) (hM : OkM M) (hr : RowsAt w a (intM M))
    (h1 : Ints w a1 l1) (h2 : Ints w a2 l2) (hl1 : l1.length ≤ 1000) (hl2 : l2.length ≤ 1000) (hn1 : l1 ≠ []) (hn2 : l2 ≠ []) (hs1 : setB (nst M) l1 = true) (hs2 : setB (nst M) l2 = true) :
    Calls Tryd.prog 31 #[.slice a M.length c, .slice a1 l1.length c1, .slice a2 l2.length c2] w fun e w' => e = .returned (mergeV (firstE M (numL l1) (eqB (numL l2)))) ∧ Below w.heap.size w w' := by
  have HW := hid (isM_yes a c M w hM hr)
  have S1 := hid (fun (W : World) (hb : Below w.heap.size w W) => set_any a c M a1 c1 l1 W hM (hr.below hb (Nat.le_refl _)) (h1.below hb (Nat.le_refl _)) hl1)
  have S2 := hid (fun (W : World) (hb : Below w.heap.size w W) => set_any a c M a2 c2 l2 W hM (hr.below hb (Nat.le_refl _)) (h2.below hb (Nat.le_refl _)) hl2)
  rw [hs1] at S1
  rw [hs2] at S2
  simp only [setRV, if_true] at S1 S2
  obtain ⟨k1, k2⟩ := num_lt hs1
  have k2 := k2 hn1
  have d1 : ((l1.length : Int) == 0) = false := beq_eq_false_iff_ne.2 (by have := List.length_pos_iff.2 hn1; omega)
  have d2 : ((l2.length : Int) == 0) = false := beq_eq_false_iff_ne.2 (by have := List.length_pos_iff.2 hn2; omega)
  generalize numL l1 = s at *
  generalize numL l2 = t at *
  have SP := hid (fun (b : Nat) (W : World) (hb : Below w.heap.size w W) (hbl : b < W.heap.size) (hc : W.cell? ⟨b, 0, none⟩ = some (.int .i64 (t : Int))) =>
    search_pure M s 58 #[.pointer (some ⟨b, 0, none⟩)] (eqB t) a c W hM k1 k2 (hr.below hb (Nat.le_refl _)) enter58 fun q W' _ hb' => in58_any q t b W' ((hb'.cell (p := ⟨b, 0, none⟩) hbl).trans hc))
  generalize l1.length = n1 at *
  generalize l2.length = n2 at *
  clear hM hr h1 h2 hn1 hn2 hs1 hs2 k1 k2
  cases hf : firstE M s (eqB t)
  all_goals
    rw [hf] at SP
    simp only [srchV] at SP
    clear hf
    go_enter Tryd.func31, Tryd.ntmps31
    go_wp2_with fail
    refine HW.out.mono ?_
    rintro e w1 ⟨rfl, hb1⟩
    have HB1 := hid hb1
    clear hb1
    go_wp2_with fail
    refine (S1.out w1 HB1.out).mono ?_
    rintro e w2 ⟨rfl, rfl⟩
    go_wp2_with fail
    refine (S2.out w1 HB1.out).mono ?_
    rintro e w2 ⟨rfl, rfl⟩
    have HB2 := hid (HB1.out.alloc HB1.out.size (.cells #[.int .i64 (t : Int)] 75))
    have HS := hid (SP.out w1.heap.size _ HB2.out (by simp) ((Blk.new w1 #[.int .i64 (t : Int)] 75).cell 0))
    go_wp2_with fail
    refine HS.out.mono ?_
    rintro e w3 ⟨rfl, hb3⟩
    have HB3 := hid (HB2.out.trans (hb3.mono HB2.out.size))
    clear hb3
    go_wp2_with fail
    refine bodyPost_ret (results_tmp2 rfl _ _ _) rfl ?_
    exact ⟨rfl, HB3.out⟩

theorem Lead_no (a : Option Addr) (c : Nat) (X : List (List Int)) (v1 v2 : Value) (w : World) (hr : RowsAt w a X) (hl : X.length ≤ 1000) (hl2 : ∀ r ∈ X, r.length ≤ 1000) (hm : machineB X = false) :
    Calls Tryd.prog 31 #[.slice a X.length c, v1, v2] w fun e w' => e = .returned (.tuple #[.string ⟨#[]⟩, .int .i64 2]) ∧ Below w.heap.size w w' := by
  have HW := hid (isMachine_any a c X w hr hl hl2)
  rw [hm] at HW
  clear hm hr hl2
  go_enter Tryd.func31, Tryd.ntmps31
  go_wp2_with fail
  refine HW.out.mono ?_
  rintro e w1 ⟨rfl, hb1⟩
  go_wp2_with fail
  refine bodyPost_ret (results_tmp2 rfl _ _ _) rfl ?_
  exact ⟨rfl, hb1⟩

set_option maxRecDepth 100000 in
set_option maxHeartbeats 2000000 in
theorem Lead_bad (a : Option Addr) (c : Nat) (M : List (List Nat)) (a1 : Option Addr) (c1 : Nat) (l1 : List Int) (a2 : Option Addr) (c2 : Nat) (l2 : List Int) (w : World) (hM : OkM M) (hr : RowsAt w a (intM M))
    (h1 : Ints w a1 l1) (h2 : Ints w a2 l2) (hl1 : l1.length ≤ 1000) (hl2 : l2.length ≤ 1000) (hbad : l1.length = 0 ∨ l2.length = 0 ∨ setB (nst M) l1 = false ∨ setB (nst M) l2 = false) :
    Calls Tryd.prog 31 #[.slice a M.length c, .slice a1 l1.length c1, .slice a2 l2.length c2] w fun e w' => e = .returned (.tuple #[.string ⟨#[]⟩, .int .i64 2]) ∧ Below w.heap.size w w' := by
  have HW := hid (isM_yes a c M w hM hr)
  have S1 := hid (fun (W : World) (hb : Below w.heap.size w W) => set_any a c M a1 c1 l1 W hM (hr.below hb (Nat.le_refl _)) (h1.below hb (Nat.le_refl _)) hl1)
  have S2 := hid (fun (W : World) (hb : Below w.heap.size w W) => set_any a c M a2 c2 l2 W hM (hr.below hb (Nat.le_refl _)) (h2.below hb (Nat.le_refl _)) hl2)
  generalize numL l1 = s at *
  generalize numL l2 = t at *
  generalize setB (nst M) l1 = b1 at *
  generalize setB (nst M) l2 = b2 at *
  generalize l1.length = n1 at *
  generalize l2.length = n2 at *
  clear hM hr h1 h2
  by_cases e1 : n1 = 0
  · have d1 : ((n1 : Int) == 0) = true := beq_iff_eq.2 (by omega)
    clear e1 hbad
    go_enter Tryd.func31, Tryd.ntmps31
    go_wp2_with fail
    refine HW.out.mono ?_
    rintro e w1 ⟨rfl, hb1⟩
    go_wp2_with fail
    refine bodyPost_ret (results_tmp2 rfl _ _ _) rfl ?_
    exact ⟨rfl, hb1⟩
  · have d1 : ((n1 : Int) == 0) = false := beq_eq_false_iff_ne.2 (by omega)
    by_cases e2 : n2 = 0
    · have d2 : ((n2 : Int) == 0) = true := beq_iff_eq.2 (by omega)
      clear e1 e2 hbad
      go_enter Tryd.func31, Tryd.ntmps31
      go_wp2_with fail
      refine HW.out.mono ?_
      rintro e w1 ⟨rfl, hb1⟩
      go_wp2_with fail
      refine bodyPost_ret (results_tmp2 rfl _ _ _) rfl ?_
      exact ⟨rfl, hb1⟩
    · have d2 : ((n2 : Int) == 0) = false := beq_eq_false_iff_ne.2 (by omega)
      have hbb : b1 = false ∨ (b1 = true ∧ b2 = false) := by
        rcases hbad with h | h | h | h
        · exact absurd h e1
        · exact absurd h e2
        · exact .inl h
        · cases b1
          · exact .inl rfl
          · exact .inr ⟨rfl, h⟩
      clear e1 e2 hbad
      rcases hbb with rfl | ⟨rfl, rfl⟩
      · cases b2
        all_goals
          simp only [setRV, if_true, Bool.false_eq_true, if_false] at S1 S2
          go_enter Tryd.func31, Tryd.ntmps31
          go_wp2_with fail
          refine HW.out.mono ?_
          rintro e w1 ⟨rfl, hb1⟩
          have HB1 := hid hb1
          clear hb1
          go_wp2_with fail
          refine (S1.out w1 HB1.out).mono ?_
          rintro e w2 ⟨rfl, rfl⟩
          go_wp2_with fail
          refine (S2.out w1 HB1.out).mono ?_
          rintro e w2 ⟨rfl, rfl⟩
          go_wp2_with fail
          refine bodyPost_ret (results_tmp2 rfl _ _ _) rfl ?_
          exact ⟨rfl, HB1.out.alloc HB1.out.size _⟩
      · simp only [setRV, if_true, Bool.false_eq_true, if_false] at S1 S2
        go_enter Tryd.func31, Tryd.ntmps31
        go_wp2_with fail
        refine HW.out.mono ?_
        rintro e w1 ⟨rfl, hb1⟩
        have HB1 := hid hb1
        clear hb1
        go_wp2_with fail
        refine (S1.out w1 HB1.out).mono ?_
        rintro e w2 ⟨rfl, rfl⟩
        go_wp2_with fail
        refine (S2.out w1 HB1.out).mono ?_
        rintro e w2 ⟨rfl, rfl⟩
        go_wp2_with fail
        refine bodyPost_ret (results_tmp2 rfl _ _ _) rfl ?_
        exact ⟨rfl, HB1.out.alloc HB1.out.size _⟩
end Go.Proofs.YthlgdakdjikjhaaDoor
/-
  The law ClockLeads, walked.
-/
namespace Go.Proofs.YthlgdakdjikjhaaDoor
open Go.RowKit Go.ChangeMaps
attribute [local go_sem] Oper.semAt_some

theorem retI_ints {l : List Int} {w w' : World} {a : Option Addr} {c : Nat} (h : w'.ownsRow w.heap.size 3 1 (.slice a l.length c) l.length (l.map (Value.int .i64))) : Ints w' a l ∧ (a = none → c = 0) ∧ l.length ≤ c := by
  obtain ⟨a', c', e, k⟩ := ownsRow_ints h
  cases e
  exact ⟨k, (ownsRow_facts h).2.2, (ownsRow_facts h).2.1⟩

set_option maxRecDepth 100000 in
set_option maxHeartbeats 4000000 in
theorem leads_walk (a0 : Option Addr) (len0 cap0 : Nat) (X : List (List Int)) (a1 : Option Addr) (len1 cap1 : Nat) (z1 : List Int) (a2 : Option Addr) (len2 cap2 : Nat) (z2 : List Int) (w : World) (hG : Glob w) (w0 : IsRows w a0 len0 cap0 X) (w1 : IsRow .i64 w a1 len1 cap1 z1) (w2 : IsRow .i64 w a2 len2 cap2 z2) :
    Calls Tryd.prog 7 #[.slice a0 len0 cap0, .slice a1 len1 cap1, .slice a2 len2 cap2] w fun e w' => e = .returned (.bool true) ∧ Below w.heap.size w w' := by
  obtain ⟨rfl, hl, -, hr, hl2⟩ := w0
  have hmx : maxLen ≤ 9223372036854775807 := by decide
  obtain ⟨k1, e1, n1, c1, m1⟩ := w1.ints
  obtain ⟨k2, e2, n2, c2, m2⟩ := w2.ints
  have HG := hid hG
  have TB := hid (table_any a0 cap0 X w hr hl fun r h => (hl2 r h).1)
  have L1 := hid (fun (W : World) (hb : Below w.heap.size w W) => listc_any a1 cap1 (z1.take len1) W (k1.below hb (Nat.le_refl _)) (by omega) n1 (by omega))
  have L2 := hid (fun (W : World) (hb : Below w.heap.size w W) => listc_any a2 cap2 (z2.take len2) W (k2.below hb (Nat.le_refl _)) (by omega) n2 (by omega))
  rw [e1] at L1
  rw [e2] at L2
  have hTl := tabL_len X
  have hTr := tabL_rows X
  have hl1 : ((z1.take len1).take 11).length ≤ 11 := by rw [List.length_take]; omega
  have hl2' : ((z2.take len2).take 11).length ≤ 11 := by rw [List.length_take]; omega
  generalize tabL X = T at *
  generalize (z1.take len1).take 11 = l1 at *
  generalize (z2.take len2).take 11 = l2 at *
  clear hG hr hl hl2 w1 w2 k1 e1 n1 c1 m1 k2 e2 n2 c2 m2 hmx
  go_enter Tryd.func7, Tryd.ntmps7
  go_wp2_with fail
  refine TB.out.mono ?_
  rintro e v1 ⟨b0, d0, rfl, ht⟩
  have HB1 := hid ht.out.below
  obtain ⟨-, hrt, -, -⟩ := ht.out.rows
  have HRT1 := hid hrt
  clear hrt ht TB
  go_wp2_with fail
  refine (L1.out v1 HB1.out).mono ?_
  rintro e v2 ⟨b1, d1, rfl, ho1, hb2⟩
  have I1 := hid (retI_ints ho1.out).1
  have HB2 := hid (HB1.out.trans (hb2.mono HB1.out.size))
  have HRT2 := hid (HRT1.out.below hb2 (Nat.le_refl _))
  clear ho1 hb2 L1
  go_wp2_with fail
  refine (L2.out v2 HB2.out).mono ?_
  rintro e v3 ⟨b2, d2, rfl, ho2, hb3⟩
  have HI2 := hid (retI_ints ho2.out).1
  have HI1 := hid (I1.out.below hb3 (Nat.le_refl _))
  have HB3 := hid (HB2.out.trans (hb3.mono HB2.out.size))
  have HRT := hid (HRT2.out.below hb3 (Nat.le_refl _))
  clear ho2 hb3 L2 I1 HRT1 HRT2 HB1 HB2
  have RM := hid (fun W (hb : Below v3.heap.size v3 W) => refMachine_any b0 d0 T W (HRT.out.below hb (Nat.le_refl _)) (by omega) (fun r h => by have := hTr r h; omega))
  cases hm : machineB T with
  | false =>
    have MN := hid (Lead_no b0 d0 T (.slice b1 l1.length d1) (.slice b2 l2.length d2) v3 HRT.out (by omega) (fun r h => by have := hTr r h; omega) hm)
    rw [hm] at RM
    clear hm hTr
    go_wp2_with fail
    refine MN.out.mono ?_
    rintro e v4 ⟨rfl, hb4⟩
    have B4 := hid (HB3.out.trans (hb4.mono HB3.out.size))
    have RM4 := hid (RM.out v4 hb4)
    clear hb4
    go_wp2_with fail
    refine RM4.out.mono ?_
    rintro e v5 ⟨rfl, rfl⟩
    go_wp2_with fail
    refine (awake_any _ (HG.out.next B4.out)).mono ?_
    rintro e w9 ⟨rfl, hb9⟩
    have B9 := hid (B4.out.trans (hb9.mono B4.out.size))
    clear hb9
    go_wp2_with fail
    go_ret
    exact ⟨rfl, B9.out⟩
  | true =>
    obtain ⟨M, rfl, hM⟩ := machine_ok T hm
    rw [hm, intM_length] at RM
    rw [intM_length]
    have RS1 := hid (fun W (hb : Below v3.heap.size v3 W) => refSet_any b0 d0 M b1 d1 l1 W hM (HRT.out.below hb (Nat.le_refl _)) (HI1.out.below hb (Nat.le_refl _)) (by omega))
    have RS2 := hid (fun W (hb : Below v3.heap.size v3 W) => refSet_any b0 d0 M b2 d2 l2 W hM (HRT.out.below hb (Nat.le_refl _)) (HI2.out.below hb (Nat.le_refl _)) (by omega))
    have BAD := hid (fun h => Lead_bad b0 d0 M b1 d1 l1 b2 d2 l2 v3 hM HRT.out HI1.out HI2.out (by omega) (by omega) h)
    have YES := hid (fun h1 h2 h3 h4 => Lead_yes b0 d0 M b1 d1 l1 b2 d2 l2 v3 hM HRT.out HI1.out HI2.out (by omega) (by omega) h1 h2 h3 h4)
    have NUM1 := hid (fun W (hb : Below v3.heap.size v3 W) h => refNumber_any b1 d1 (nst M) l1 W hM.n9 (HI1.out.below hb (Nat.le_refl _)) (by omega) h)
    have NUM2 := hid (fun W (hb : Below v3.heap.size v3 W) h => refNumber_any b2 d2 (nst M) l2 W hM.n9 (HI2.out.below hb (Nat.le_refl _)) (by omega) h)
    have RL := hid (fun W (hb : Below v3.heap.size v3 W) h => refLead_any b0 d0 M (numL l1) (numL l2) W hM (HRT.out.below hb (Nat.le_refl _)) h)
    have NLT := hid (fun h => (num_lt (n := nst M) (l := l1) h).1)
    have HNE1 := hid (fun (h : l1.length ≠ 0) => (fun e => h (by rw [e]; rfl) : l1 ≠ []))
    have HNE2 := hid (fun (h : l2.length ≠ 0) => (fun e => h (by rw [e]; rfl) : l2 ≠ []))
    clear hm hTr hM
    generalize setB (nst M) l1 = s1 at *
    generalize setB (nst M) l2 = s2 at *
    generalize hn1 : l1.length = n1 at *
    generalize hn2 : l2.length = n2 at *
    clear hn1 hn2
    cases s1 with
    | false =>
      have LD := hid (BAD.out (.inr (.inr (.inl rfl))))
      go_wp2_with fail
      refine LD.out.mono ?_
      rintro e v4 ⟨rfl, hb4⟩
      have B4 := hid (HB3.out.trans (hb4.mono HB3.out.size))
      have HB4 := hid hb4
      clear hb4
      go_wp2_with fail
      refine (RM.out v4 HB4.out).mono ?_
      rintro e v5 ⟨rfl, rfl⟩
      go_wp2_with fail
      refine (RS1.out v4 HB4.out).mono ?_
      rintro e v5 ⟨rfl, hb5⟩
      have B5 := hid (B4.out.trans (hb5.mono B4.out.size))
      have HB5 := hid (HB4.out.trans (hb5.mono HB4.out.size))
      clear hb5
      go_wp2_with fail
      refine (awake_any _ (HG.out.next B5.out)).mono ?_
      rintro e w9 ⟨rfl, hb9⟩
      have B9 := hid (B5.out.trans (hb9.mono B5.out.size))
      clear hb9
      go_wp2_with fail
      go_ret
      exact ⟨rfl, B9.out⟩
    | true =>
      cases s2 with
      | false =>
        have LD := hid (BAD.out (.inr (.inr (.inr rfl))))
        go_wp2_with fail
        refine LD.out.mono ?_
        rintro e v4 ⟨rfl, hb4⟩
        have B4 := hid (HB3.out.trans (hb4.mono HB3.out.size))
        have HB4 := hid hb4
        clear hb4
        go_wp2_with fail
        refine (RM.out v4 HB4.out).mono ?_
        rintro e v5 ⟨rfl, rfl⟩
        go_wp2_with fail
        refine (RS1.out v4 HB4.out).mono ?_
        rintro e v5 ⟨rfl, hb5⟩
        have B5 := hid (B4.out.trans (hb5.mono B4.out.size))
        have HB5 := hid (HB4.out.trans (hb5.mono HB4.out.size))
        clear hb5
        go_wp2_with fail
        refine (RS2.out v5 HB5.out).mono ?_
        rintro e v6 ⟨rfl, hb6⟩
        have B6 := hid (B5.out.trans (hb6.mono B5.out.size))
        clear hb6
        go_wp2_with fail
        refine (awake_any _ (HG.out.next B6.out)).mono ?_
        rintro e w9 ⟨rfl, hb9⟩
        have B9 := hid (B6.out.trans (hb9.mono B6.out.size))
        clear hb9
        go_wp2_with fail
        go_ret
        exact ⟨rfl, B9.out⟩
      | true =>
        by_cases h1 : n1 = 0
        · have x1 : ((n1 : Int) == 0) = true := beq_iff_eq.2 (by omega)
          have LD0 := BAD.out (.inl h1)
          have LD := hid LD0
          clear LD0
          clear h1
          go_wp2_with fail
          refine LD.out.mono ?_
          rintro e v4 ⟨rfl, hb4⟩
          have B4 := hid (HB3.out.trans (hb4.mono HB3.out.size))
          have HB4 := hid hb4
          clear hb4
          go_wp2_with fail
          refine (RM.out v4 HB4.out).mono ?_
          rintro e v5 ⟨rfl, rfl⟩
          go_wp2_with fail
          refine (RS1.out v4 HB4.out).mono ?_
          rintro e v5 ⟨rfl, hb5⟩
          have B5 := hid (B4.out.trans (hb5.mono B4.out.size))
          have HB5 := hid (HB4.out.trans (hb5.mono HB4.out.size))
          clear hb5
          go_wp2_with fail
          refine (RS2.out v5 HB5.out).mono ?_
          rintro e v6 ⟨rfl, hb6⟩
          have B6 := hid (B5.out.trans (hb6.mono B5.out.size))
          clear hb6
          go_wp2_with fail
          refine (awake_any _ (HG.out.next B6.out)).mono ?_
          rintro e w9 ⟨rfl, hb9⟩
          have B9 := hid (B6.out.trans (hb9.mono B6.out.size))
          clear hb9
          go_wp2_with fail
          go_ret
          exact ⟨rfl, B9.out⟩
        · have x1 : ((n1 : Int) == 0) = false := beq_eq_false_iff_ne.2 (by omega)
          by_cases h2 : n2 = 0
          · have x2 : ((n2 : Int) == 0) = true := beq_iff_eq.2 (by omega)
            have LD0 := BAD.out (.inr (.inl h2))
            have LD := hid LD0
            clear LD0
            clear h1 h2
            go_wp2_with fail
            refine LD.out.mono ?_
            rintro e v4 ⟨rfl, hb4⟩
            have B4 := hid (HB3.out.trans (hb4.mono HB3.out.size))
            have HB4 := hid hb4
            clear hb4
            go_wp2_with fail
            refine (RM.out v4 HB4.out).mono ?_
            rintro e v5 ⟨rfl, rfl⟩
            go_wp2_with fail
            refine (RS1.out v4 HB4.out).mono ?_
            rintro e v5 ⟨rfl, hb5⟩
            have B5 := hid (B4.out.trans (hb5.mono B4.out.size))
            have HB5 := hid (HB4.out.trans (hb5.mono HB4.out.size))
            clear hb5
            go_wp2_with fail
            refine (RS2.out v5 HB5.out).mono ?_
            rintro e v6 ⟨rfl, hb6⟩
            have B6 := hid (B5.out.trans (hb6.mono B5.out.size))
            clear hb6
            go_wp2_with fail
            refine (awake_any _ (HG.out.next B6.out)).mono ?_
            rintro e w9 ⟨rfl, hb9⟩
            have B9 := hid (B6.out.trans (hb9.mono B6.out.size))
            clear hb9
            go_wp2_with fail
            go_ret
            exact ⟨rfl, B9.out⟩
          · have x2 : ((n2 : Int) == 0) = false := beq_eq_false_iff_ne.2 (by omega)
            have YS := YES.out (HNE1.out h1) (HNE2.out h2) rfl rfl
            have HNL := hid (NLT.out rfl)
            clear h1 h2
            cases hf : firstE M (numL l1) (eqB (numL l2))
            all_goals
              rw [hf] at YS RL
              simp only [mergeV, Option.isSome_none, Option.isSome_some] at YS RL
              have YS := hid YS
              clear hf
              go_wp2_with fail
              refine YS.out.mono ?_
              rintro e v4 ⟨rfl, hb4⟩
              have B4 := hid (HB3.out.trans (hb4.mono HB3.out.size))
              have HB4 := hid hb4
              clear hb4
              go_wp2_with fail
              refine (RM.out v4 HB4.out).mono ?_
              rintro e v5 ⟨rfl, rfl⟩
              go_wp2_with fail
              refine (RS1.out v4 HB4.out).mono ?_
              rintro e v5 ⟨rfl, hb5⟩
              have B5 := hid (B4.out.trans (hb5.mono B4.out.size))
              have HB5 := hid (HB4.out.trans (hb5.mono HB4.out.size))
              clear hb5
              go_wp2_with fail
              refine (RS2.out v5 HB5.out).mono ?_
              rintro e v6 ⟨rfl, hb6⟩
              have B6 := hid (B5.out.trans (hb6.mono B5.out.size))
              have HB6 := hid (HB5.out.trans (hb6.mono HB5.out.size))
              clear hb6
              go_wp2_with fail
              refine (NUM1.out v6 HB6.out (by trivial)).mono ?_
              rintro e v7 ⟨rfl, rfl⟩
              go_wp2_with fail
              refine (NUM2.out v6 HB6.out (by trivial)).mono ?_
              rintro e v7 ⟨rfl, rfl⟩
              go_wp2_with fail
              refine (RL.out v6 HB6.out HNL.out).mono ?_
              rintro e v8 ⟨wd, rfl, hwd, hb8⟩
              have B8 := hid (B6.out.trans (hb8.mono B6.out.size))
              clear hb8
              first
                | (have hwd2 := hwd.out _ rfl; subst hwd2)
                | skip
              clear hwd
              go_wp2_with fail
              refine (awake_any _ (HG.out.next B8.out)).mono ?_
              rintro e w9 ⟨rfl, hb9⟩
              have B9 := hid (B8.out.trans (hb9.mono B8.out.size))
              clear hb9
              go_wp2_with fail
              go_ret
              exact ⟨rfl, B9.out⟩
end Go.Proofs.YthlgdakdjikjhaaDoor
