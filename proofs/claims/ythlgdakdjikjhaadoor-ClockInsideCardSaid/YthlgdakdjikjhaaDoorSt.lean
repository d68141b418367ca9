/-
  Walks: states, a set made of a list.
-/
import Derived.Test.YthlgdakdjikjhaaDoorX
namespace Go.Proofs.YthlgdakdjikjhaaDoor
open Go.RowKit Go.ChangeMaps
attribute [local go_sem] Oper.semAt_some

theorem inP_zero (n : Nat) (l : List Int) (q : Nat) : inP n l q 0 = (decide (l.length = 0) && decide (q = 0)) := by
  unfold inP; rw [List.take_zero, List.any_nil, Bool.or_false]
theorem inP_succ (n : Nat) (l : List Int) (q j : Nat) {z : Int} (h : l[j]? = some z) : inP n l q (j + 1) = (inP n l q j || (modN z n == q)) := by
  obtain ⟨hj, rfl⟩ := List.getElem?_eq_some_iff.1 h
  unfold inP
  rw [List.take_succ_eq_append_getElem hj, List.any_append, Bool.or_assoc]
  simp
theorem inP_end (n : Nat) (l : List Int) (q j : Nat) (h : l.length ≤ j) (h2 : j ≤ 20) : inP n l q 20 = inP n l q j := by
  unfold inP
  rw [List.take_of_length_le h, List.take_of_length_le (by omega)]
def stL (n : Nat) (l : List Int) (q : Nat) : List Nat := (List.range q).filter fun q => inP n l q 20
theorem stL_succ (n : Nat) (l : List Int) (q : Nat) : stL n l (q + 1) = stL n l q ++ (if inP n l q 20 then [q] else []) := by
  unfold stL
  rw [List.range_succ, List.filter_append, List.filter_cons, List.filter_nil]
theorem stL_len (n : Nat) (l : List Int) (q : Nat) : (stL n l q).length ≤ q := by
  have := List.length_filter_le (fun q => inP n l q 20) (List.range q)
  rw [List.length_range] at this
  exact this
theorem nat_eq (a b : Nat) : ((a : Int) == (b : Int)) = (a == b) := by rw [Bool.eq_iff_iff]; simp; omega

set_option maxRecDepth 100000 in
set_option maxHeartbeats 4000000 in
theorem states_any (a : Option Addr) (c : Nat) (M : List (List Nat)) (a1 : Option Addr) (c1 : Nat) (l : List Int) (w : World) (hM : OkM M) (hr : RowsAt w a (intM M)) (hl : Ints w a1 l) (hll : l.length ≤ maxLen) (hbd : ∀ n ∈ l, -9223372036854775808 ≤ n ∧ n ≤ 9223372036854775807) :
    Calls Tryd.prog 39 #[.slice a M.length c, .slice a1 l.length c1] w (RetN (statesL (nst M) l) w) := by
  have hmx : maxLen ≤ 9223372036854775807 := by decide
  have hn9 := hM.n9
  have hn1 := hM.n1
  have hm1 := hM.b1
  obtain ⟨g, o, b1, c1', rfl, hg, q1⟩ := head_at hM hr
  have HS := hid (show statesL (nst M) l = stL (nst M) l (nst M) from rfl)
  generalize nst M = n at *
  have HI := hid hl
  have HBD := hid hbd
  obtain ⟨len, hlen⟩ : ∃ len, len = l.length := ⟨_, rfl⟩
  have HLEN := hid hlen
  rw [← hlen] at hll ⊢
  clear hM hr hl hbd hlen
  go_enter Tryd.func39, Tryd.ntmps39
  go_wp2_with fail
  go_loopw [5, 6] (fun v i wr => ∃ (q : Nat) (L : List Nat), q ≤ n ∧ i = .int .i64 q ∧ L.length ≤ q ∧ Hid (L = stL n l q) ∧ Below w.heap.size w wr ∧ wr.ownsRow w.heap.size 3 1 v L.length (L.map natV)) (fun _ i _ => n - (intOf i).toNat)
  case atStart => exact ⟨0, [], by omega, rfl, by simp, rfl, Below.refl _ _, World.ownsRow_nil _ _ _ _⟩
  case round =>
    obtain ⟨q, L, hq, rfl, hLq, HL, hB, hown⟩ := hrel
    have q5 := (hB.cell (p := ⟨g, o, none⟩) hg).trans q1
    have HB := hid hB
    have HO := hid hown
    clear hB hown
    by_cases hqn : q < n
    · have d0 : decide (q < n) = true := decide_eq_true hqn
      obtain ⟨wo, rfl⟩ : ∃ wo : World, wo = wr := ⟨_, rfl⟩
      obtain ⟨x0, hx0⟩ : ∃ x0, x0 = inP n l q 0 := ⟨_, rfl⟩
      have hx1 := hx0
      rw [inP_zero, ← HLEN.out] at hx1
      have HX0 := hid hx0
      clear hx0
      rcases (show (len = 0 ∧ q = 0 ∧ x0 = true) ∨ (len = 0 ∧ 0 < q ∧ x0 = false) ∨ (0 < len ∧ x0 = false) by
        rcases Nat.eq_zero_or_pos len with h | h <;> rcases Nat.eq_zero_or_pos q with h2 | h2 <;> simp_all <;> omega) with ⟨h1, h2, rfl⟩ | ⟨h1, h2, rfl⟩ | ⟨h1, rfl⟩
      rotate_left 1
      rotate_left 1
      all_goals clear hx1
      · have e1 : ((len : Int) == 0) = false := beq_eq_false_iff_ne.2 (by omega)
        go_wp2_with fail
        go_loopw [7, 8] (fun b jv W => ∃ (j : Nat) (x : Bool), j ≤ len ∧ j ≤ 20 ∧ jv = .int .i64 j ∧ b = .bool x ∧ Hid (x = inP n l q j) ∧ Below wo.heap.size wo W) (fun _ jv _ => 20 - (intOf jv).toNat)
        case atStart => exact ⟨0, _, by omega, by omega, rfl, rfl, HX0, Below.refl _ _⟩
        case round =>
          obtain ⟨j, x, hj, hj20, rfl, rfl, HX, hBW⟩ := hrel
          have HBI := hid hBW
          have HBW := hid (HB.out.trans (hBW.mono HB.out.size))
          have HO2 := hid (ownsRow_low HO.out hBW (Nat.le_refl _))
          have q6 := (HBW.out.cell (p := ⟨g, o, none⟩) hg).trans q1
          clear hBW
          by_cases hjl : j < len
          · by_cases hj2 : j < 20
            · have dj : decide (j < len) = true := decide_eq_true hjl
              have dj2 : decide ((j : Int) < 20) = true := decide_eq_true (by omega)
              obtain ⟨z, hz, -⟩ := list_drop_cons l j (by rw [← HLEN.out]; exact hjl)
              have HZ := hid hz
              have hbz := HBD.out z (List.mem_of_getElem? hz)
              clear hz
              cases x with
              | true =>
                have HN := hid (show true = inP n l q (j + 1) by rw [inP_succ n l q j HZ.out, ← HX.out]; rfl)
                go_wp2_with fail
                go_quiet (fail)
                have HB2 := hid (below_drewN HBI.out nq)
                go_wp2_with fail
                exact ⟨⟨j + 1, true, by omega, by omega, by go_num, rfl, HN, HB2.out⟩, by simp [intOf]; omega⟩
              | false =>
                have HN := hid (show (modN z n == q) = inP n l q (j + 1) by rw [inP_succ n l q j HZ.out, ← HX.out, Bool.false_or])
                obtain ⟨g2, o2, rfl, hg2, hcell⟩ := HI.out.at (by rw [← HLEN.out]; omega)
                have q7 := (HBW.out.cell (p := ⟨g2, o2 + j, none⟩) hg2).trans (hcell j z HZ.out)
                have e5 := nat_eq (modN z n) q
                have C := hid (fun (W : World) => mod_any z n W (by omega) (by omega) hbz |>.mono (R' := fun e w' => e = .returned (.int .i64 (modN z n)) ∧ w' = W) fun e w' h => ⟨h.1, h.2.symm⟩)
                generalize modN z n = r at *
                clear hcell
                go_wp2_with fail
                go_quiet (exact Calls.quiet_of_same (C.out _))
                have HB2 := hid (below_drewN HBI.out nq)
                go_wp2_with fail
                exact ⟨⟨j + 1, r == q, by omega, by omega, by go_num, rfl, HN, HB2.out⟩, by simp [intOf]; omega⟩
            · have hj0 : j = 20 := by omega
              subst hj0
              have dj : decide (20 < len) = true := decide_eq_true hjl
              have HE := hid (show x = inP n l q 20 from HX.out)
              clear HX
              cases x with
              | true =>
                have hX : L.map natV ++ [.int .i64 (q : Int)] = (L ++ [q]).map natV := by rw [List.map_append]; rfl
                have HST := hid (show L ++ [q] = stL n l (q + 1) by rw [stL_succ, ← HE.out, HL.out]; rfl)
                have HX2 := hid hX
                clear hX
                go_wp2_with (at_builtin; go_must (refine wpList_app _ rfl (.tmp 49) (.tmp 51) 38 rfl w.heap.size 3 (.int .i64 0) 8 Tryd.underlying38 Tryd.info3 rfl _ L.length _ rfl (HO2.out.alloc _) (some ⟨wr.heap.size, 0, none⟩) 1 1 [.int .i64 _] rfl rfl (vals_new _ _ _ _ rfl) (fun h => by cases h) (by simp [Value.oneCell']) (by omega) (by omega) (by have := HBW.out.size; simp; omega) ?_))
                intro v' w1 hown' hgrow _
                rw [HX2.out] at hown'
                have hB' := below_app (HBW.out.alloc HBW.out.size _) hgrow (HO2.out.alloc _) (by have := HBW.out.size; simp; omega) (Nat.le_refl _)
                have HO' := hid hown'
                have HB' := hid hB'
                clear hown' hgrow hB'
                go_wp2_with fail
                exact ⟨⟨q + 1, L ++ [q], by omega, by go_num, by simp; omega, HST, HB'.out, by simpa using HO'.out⟩, by simp [intOf]; omega⟩
              | false =>
                have HST := hid (show L = stL n l (q + 1) by rw [stL_succ, ← HE.out, ← HL.out]; exact (List.append_nil _).symm)
                go_wp2_with fail
                exact ⟨⟨q + 1, L, by omega, by go_num, by omega, HST, HBW.out, HO2.out⟩, by simp [intOf]; omega⟩
          · have dj : decide (j < len) = false := decide_eq_false hjl
            have HE := hid (show x = inP n l q 20 by rw [inP_end n l q j (by rw [← HLEN.out]; omega) hj20]; exact HX.out)
            clear HX
            cases x with
            | true =>
              have hX : L.map natV ++ [.int .i64 (q : Int)] = (L ++ [q]).map natV := by rw [List.map_append]; rfl
              have HST := hid (show L ++ [q] = stL n l (q + 1) by rw [stL_succ, ← HE.out, HL.out]; rfl)
              have HX2 := hid hX
              clear hX
              go_wp2_with (at_builtin; go_must (refine wpList_app _ rfl (.tmp 49) (.tmp 51) 38 rfl w.heap.size 3 (.int .i64 0) 8 Tryd.underlying38 Tryd.info3 rfl _ L.length _ rfl (HO2.out.alloc _) (some ⟨wr.heap.size, 0, none⟩) 1 1 [.int .i64 _] rfl rfl (vals_new _ _ _ _ rfl) (fun h => by cases h) (by simp [Value.oneCell']) (by omega) (by omega) (by have := HBW.out.size; simp; omega) ?_))
              intro v' w1 hown' hgrow _
              rw [HX2.out] at hown'
              have hB' := below_app (HBW.out.alloc HBW.out.size _) hgrow (HO2.out.alloc _) (by have := HBW.out.size; simp; omega) (Nat.le_refl _)
              have HO' := hid hown'
              have HB' := hid hB'
              clear hown' hgrow hB'
              go_wp2_with fail
              exact ⟨⟨q + 1, L ++ [q], by omega, by go_num, by simp; omega, HST, HB'.out, by simpa using HO'.out⟩, by simp [intOf]; omega⟩
            | false =>
              have HST := hid (show L = stL n l (q + 1) by rw [stL_succ, ← HE.out, ← HL.out]; exact (List.append_nil _).symm)
              go_wp2_with fail
              exact ⟨⟨q + 1, L, by omega, by go_num, by omega, HST, HBW.out, HO2.out⟩, by simp [intOf]; omega⟩
      · subst h1
        have e1 : ((0 : Int) == 0) = true := rfl
        have HLQ := hid hLq
        subst h2
        have e2 : ((0 : Int) == 0) = true := rfl
        clear d0
        have d0 : (0 : Int) < n := by omega
        go_wp2_with fail
        go_loopw [7, 8] (fun b jv W => ∃ (j : Nat) (x : Bool), j ≤ 0 ∧ j ≤ 20 ∧ jv = .int .i64 j ∧ b = .bool x ∧ Hid (x = inP n l 0 j) ∧ Below wo.heap.size wo W) (fun _ jv _ => 20 - (intOf jv).toNat)
        case atStart => exact ⟨0, _, by omega, by omega, rfl, rfl, HX0, Below.refl _ _⟩
        case round =>
          obtain ⟨j, x, hj, hj20, rfl, rfl, HX, hBW⟩ := hrel
          have HBI := hid hBW
          have HBW := hid (HB.out.trans (hBW.mono HB.out.size))
          have HO2 := hid (ownsRow_low HO.out hBW (Nat.le_refl _))
          have q6 := (HBW.out.cell (p := ⟨g, o, none⟩) hg).trans q1
          clear hBW
          have hjl : ¬ j < 0 := by omega
          have dj : decide (j < 0) = false := decide_eq_false hjl
          have HE := hid (show x = inP n l 0 20 by rw [inP_end n l 0 j (by rw [← HLEN.out]; omega) hj20]; exact HX.out)
          clear HX
          cases x with
          | true =>
            have hX : L.map natV ++ [.int .i64 0] = (L ++ [0]).map natV := by rw [List.map_append]; rfl
            have HST := hid (show L ++ [0] = stL n l (0 + 1) by rw [stL_succ, ← HE.out, HL.out]; rfl)
            have HX2 := hid hX
            clear hX
            go_wp2_with (at_builtin; go_must (refine wpList_app _ rfl (.tmp 49) (.tmp 51) 38 rfl w.heap.size 3 (.int .i64 0) 8 Tryd.underlying38 Tryd.info3 rfl _ L.length _ rfl (HO2.out.alloc _) (some ⟨wr.heap.size, 0, none⟩) 1 1 [.int .i64 _] rfl rfl (vals_new _ _ _ _ rfl) (fun h => by cases h) (by simp [Value.oneCell']) (by omega) (by omega) (by have := HBW.out.size; simp; omega) ?_))
            intro v' w1 hown' hgrow _
            rw [HX2.out] at hown'
            have hB' := below_app (HBW.out.alloc HBW.out.size _) hgrow (HO2.out.alloc _) (by have := HBW.out.size; simp; omega) (Nat.le_refl _)
            have HO' := hid hown'
            have HB' := hid hB'
            clear hown' hgrow hB'
            go_wp2_with fail
            exact ⟨⟨0 + 1, L ++ [0], by omega, rfl, by have := HLQ.out; rw [List.length_append, List.length_singleton]; omega, HST, HB'.out, by simpa using HO'.out⟩, by simp [intOf]; omega⟩
          | false =>
            have HST := hid (show L = stL n l (0 + 1) by rw [stL_succ, ← HE.out, ← HL.out]; exact (List.append_nil _).symm)
            go_wp2_with fail
            exact ⟨⟨0 + 1, L, by omega, rfl, by omega, HST, HBW.out, HO2.out⟩, by simp [intOf]; omega⟩
      · subst h1
        have e1 : ((0 : Int) == 0) = true := rfl
        have e2 : ((q : Int) == 0) = false := beq_eq_false_iff_ne.2 (by omega)
        go_wp2_with fail
        go_loopw [7, 8] (fun b jv W => ∃ (j : Nat) (x : Bool), j ≤ 0 ∧ j ≤ 20 ∧ jv = .int .i64 j ∧ b = .bool x ∧ Hid (x = inP n l q j) ∧ Below wo.heap.size wo W) (fun _ jv _ => 20 - (intOf jv).toNat)
        case atStart => exact ⟨0, _, by omega, by omega, rfl, rfl, HX0, Below.refl _ _⟩
        case round =>
          obtain ⟨j, x, hj, hj20, rfl, rfl, HX, hBW⟩ := hrel
          have HBI := hid hBW
          have HBW := hid (HB.out.trans (hBW.mono HB.out.size))
          have HO2 := hid (ownsRow_low HO.out hBW (Nat.le_refl _))
          have q6 := (HBW.out.cell (p := ⟨g, o, none⟩) hg).trans q1
          clear hBW
          have hjl : ¬ j < 0 := by omega
          have dj : decide (j < 0) = false := decide_eq_false hjl
          have HE := hid (show x = inP n l q 20 by rw [inP_end n l q j (by rw [← HLEN.out]; omega) hj20]; exact HX.out)
          clear HX
          cases x with
          | true =>
            have hX : L.map natV ++ [.int .i64 (q : Int)] = (L ++ [q]).map natV := by rw [List.map_append]; rfl
            have HST := hid (show L ++ [q] = stL n l (q + 1) by rw [stL_succ, ← HE.out, HL.out]; rfl)
            have HX2 := hid hX
            clear hX
            go_wp2_with (at_builtin; go_must (refine wpList_app _ rfl (.tmp 49) (.tmp 51) 38 rfl w.heap.size 3 (.int .i64 0) 8 Tryd.underlying38 Tryd.info3 rfl _ L.length _ rfl (HO2.out.alloc _) (some ⟨wr.heap.size, 0, none⟩) 1 1 [.int .i64 _] rfl rfl (vals_new _ _ _ _ rfl) (fun h => by cases h) (by simp [Value.oneCell']) (by omega) (by omega) (by have := HBW.out.size; simp; omega) ?_))
            intro v' w1 hown' hgrow _
            rw [HX2.out] at hown'
            have hB' := below_app (HBW.out.alloc HBW.out.size _) hgrow (HO2.out.alloc _) (by have := HBW.out.size; simp; omega) (Nat.le_refl _)
            have HO' := hid hown'
            have HB' := hid hB'
            clear hown' hgrow hB'
            go_wp2_with fail
            exact ⟨⟨q + 1, L ++ [q], by omega, by go_num, by simp; omega, HST, HB'.out, by simpa using HO'.out⟩, by simp [intOf]; omega⟩
          | false =>
            have HST := hid (show L = stL n l (q + 1) by rw [stL_succ, ← HE.out, ← HL.out]; exact (List.append_nil _).symm)
            go_wp2_with fail
            exact ⟨⟨q + 1, L, by omega, by go_num, by omega, HST, HBW.out, HO2.out⟩, by simp [intOf]; omega⟩
    · have d0 : decide (q < n) = false := decide_eq_false hqn
      have hqe : q = n := by omega
      subst hqe
      obtain ⟨a2, c2, rfl, -, -⟩ := ownsRow_vals HO.out
      have hll : (L.map natV).length = L.length := List.length_map ..
      rw [hll] at HO ⊢
      have HE := hid (show L = statesL q l by rw [HS.out, HL.out])
      clear hll
      go_wp2_with fail
      go_ret
      exact ⟨a2, c2, by rw [← HE.out]; rfl, by rw [← HE.out]; exact HO, HB.out⟩
end Go.Proofs.YthlgdakdjikjhaaDoor
