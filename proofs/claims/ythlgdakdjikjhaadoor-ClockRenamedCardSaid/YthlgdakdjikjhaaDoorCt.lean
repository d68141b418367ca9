/-
  Walks: Contains, agree.
-/
import Derived.Test.YthlgdakdjikjhaaDoorUH
import Derived.Test.YthlgdakdjikjhaaDoorIso
namespace Go.Proofs.YthlgdakdjikjhaaDoor
open Go.RowKit Go.ChangeMaps
attribute [local go_sem] Oper.semAt_some

theorem castL_at {L : List Nat} {i q : Nat} (h : L[i]? = some q) : (castL L)[i]? = some (q : Int) := by
  unfold castL; rw [List.getElem?_map, h]; rfl
theorem mem_drop_cons {L : List Nat} {x y : Nat} {i : Nat} (h : L.drop i = y :: L.drop (i + 1)) (hne : y ≠ x) : (L.drop i).contains x = (L.drop (i + 1)).contains x := by
  rw [h, List.contains_cons, beq_eq_false_iff_ne.2 (fun e => hne e.symm), Bool.false_or]
def RetX (L : List Nat) (x : Nat) (w : World) (e : Ending) (w' : World) : Prop := ∃ r : Int, e = .returned (.int .i64 r) ∧ Hid (decide (r ≥ 0) = L.contains x) ∧ w = w'
set_option maxHeartbeats 1000000 in
theorem index_any (a : Option Addr) (c : Nat) (L : List Nat) (x : Nat) (w : World) (ha : Ints w a (castL L)) (hl : L.length ≤ 1000) :
    Calls Tryd.prog 81 #[.slice a L.length c, .int .i64 x] w (RetX L x w) := by
  have HA := hid ha
  have HC := hid (castL_len L)
  clear ha
  go_enter Tryd.func81, Tryd.ntmps81
  go_wp2_with fail
  go_loop [8] (fun iv => ∃ i : Nat, i ≤ L.length ∧ iv = .int .i64 i ∧ Hid (L.contains x = (L.drop i).contains x)) (fun iv => L.length - (intOf iv).toNat)
  case atStart => exact ⟨0, by omega, rfl, by rw [Hid, List.drop_zero]⟩
  case round =>
    obtain ⟨i, hi, rfl, H⟩ := hrel
    by_cases hlt : i < L.length
    · obtain ⟨y, hy, hd⟩ := list_drop_cons L i hlt
      obtain ⟨g, o, rfl, hg, hcell⟩ := HA.out.at (by rw [HC.out]; omega)
      have q1 := hcell i (y : Int) (castL_at hy)
      by_cases hxy : x = y
      · subst hxy
        have hf : decide ((i : Int) ≥ 0) = L.contains x := by
          rw [H.out, hd, List.contains_cons, beq_self_eq_true, Bool.true_or]
          exact decide_eq_true (by omega)
        have HF := hid hf
        have e1 : ((x : Int) == (x : Int)) = true := by simp
        clear hf hcell hd hy
        go_wp2_with fail
        go_ret
        exact ⟨(i : Int), rfl, HF, rfl⟩
      · have hf := H.out.trans (mem_drop_cons hd (fun e => hxy e.symm))
        have HF := hid hf
        have e1 : ((x : Int) == (y : Int)) = false := beq_eq_false_iff_ne.2 (by omega)
        clear hf hcell hd hy hxy
        go_wp2_with fail
        exact ⟨⟨i + 1, by omega, by go_num, HF⟩, by simp [intOf]; omega⟩
    · have hf : decide ((-1 : Int) ≥ 0) = L.contains x := by
        rw [H.out, List.drop_eq_nil_of_le (by omega)]; rfl
      have HF := hid hf
      clear hf
      go_wp2_with fail
      go_ret
      exact ⟨-1, rfl, HF, rfl⟩
set_option maxHeartbeats 1000000 in
theorem contains_any (a : Option Addr) (c : Nat) (L : List Nat) (x : Nat) (w : World) (ha : Ints w a (castL L)) (hl : L.length ≤ 1000) :
    Calls Tryd.prog 64 #[.slice a L.length c, .int .i64 x] w fun e w' => e = .returned (.bool (L.contains x)) ∧ w = w' := by
  have C := hid (index_any a c L x w ha hl)
  clear ha
  go_enter Tryd.func64, Tryd.ntmps64
  go_wp2_with fail
  refine C.out.mono ?_
  rintro e w1 ⟨r, rfl, hr, rfl⟩
  go_wp2_with fail
  go_ret
  exact ⟨ret_bool hr.out, rfl⟩
theorem stp_row {M : List (List Nat)} {b q : Nat} (h : q < (M.getD b []).length) : ((M.getD b []).map fun (x : Nat) => (x : Int))[q]? = some (stp M q b : Int) := by
  rw [List.getElem?_map]
  unfold stp
  generalize M.getD b [] = r at *
  rw [List.getD, List.getElem?_eq_getElem h]; rfl
theorem nat_ne (a b : Nat) : ((a : Int) != (b : Int)) = (a != b) := by rw [Bool.eq_iff_iff]; simp; omega

set_option maxRecDepth 100000 in
set_option maxHeartbeats 4000000 in
theorem agree_any (a : Option Addr) (c : Nat) (M : List (List Nat)) (a' : Option Addr) (c' : Nat) (O : List (List Nat)) (an : Option Addr) (cn : Nat) (L : List Nat) (w : World) (hM : OkM M) (hO : OkM O) (hk : M.length = O.length) (hn : nst M = nst O)
    (hr : RowsAt w a (intM M)) (hr' : RowsAt w a' (intM O)) (hL : Ints w an (castL L)) (hll : L.length ≤ nst M) (hlt : ∀ x ∈ L, x < nst M) :
    Calls Tryd.prog 65 #[.slice a M.length c, .slice a' O.length c', .slice an L.length cn] w fun e w' => e = .returned (.bool (agreeB M O L)) ∧ Below w.heap.size w w' := by
  have hn9 := hM.n9
  have hb4 := hM.b4
  have HRM := hid (fun b hb => row_at hM hr b hb)
  have HRO := hid (fun b hb => row_at hO hr' b hb)
  have HL := hid hL
  have HLT := hid hlt
  have HSM := hid (fun (b q : Nat) (hb : b < M.length) (hq : q < nst M) => And.intro (stp_lt hM hb hq) (stp_row (M := M) (b := b) (q := q) (by rw [hM.row _ (getD_mem hb)]; exact hq)))
  have HSO := hid (fun (b q : Nat) (hb : b < M.length) (hq : q < nst M) => And.intro (stp_lt hO (q := q) (b := b) (by omega) (by omega)) (stp_row (M := O) (b := b) (q := q) (by rw [hO.row _ (getD_mem (by omega))]; omega)))
  rw [← hn] at HSO HRO
  have CT := hid (fun (x : Nat) (W : World) (hb : Below w.heap.size w W) => contains_any an cn L x W (hL.below hb (Nat.le_refl _)) (by omega))
  have HAI := hid (agree_iff M O L)
  have HC := hid (castL_len L)
  obtain ⟨k, hkk⟩ : ∃ k, k = M.length := ⟨_, rfl⟩
  rw [← hk, ← hkk]
  rw [← hk] at HRO
  rw [← hkk] at HRM HRO HSM HSO HAI hb4
  clear hM hO hr hr' hL hlt hn hk hkk
  generalize nst M = n at *
  go_enter Tryd.func65, Tryd.ntmps65
  go_wp2_with fail
  go_loopw [15] (fun bv W => ∃ b : Nat, b ≤ k ∧ bv = .int .i64 b ∧ Below w.heap.size w W ∧ Hid (∀ b' q, b' < b → q < L.length → okA M O L b' q = true)) (fun bv _ => k - (intOf bv).toNat)
  case atStart => exact ⟨0, by omega, rfl, Below.refl _ _, fun b' q h => by omega⟩
  case round =>
    obtain ⟨b, hb, rfl, hB, HD⟩ := hrel
    have HB := hid hB
    clear hB
    by_cases hbk : b < k
    · obtain ⟨gM, oM, bM, cM, ha, hgM, qM, hrow⟩ := HRM.out b hbk
      obtain ⟨gO, oO, bO, cO, ha', hgO, qO, hrowO⟩ := HRO.out b hbk
      subst ha
      subst ha'
      have q1 := (HB.out.cell (p := ⟨gM, oM + b, none⟩) hgM).trans qM
      have HROW := hid hrow
      have HROWO := hid hrowO
      have HQO := hid qO
      clear hrow hrowO qM qO
      go_wp2_with fail
      go_loopw [22] (fun qv W => ∃ q : Nat, q ≤ L.length ∧ qv = .int .i64 q ∧ Below w.heap.size w W ∧ Hid (∀ q', q' < q → okA M O L b q' = true)) (fun qv _ => L.length - (intOf qv).toNat)
      case atStart => exact ⟨0, by omega, rfl, HB.out, fun q' h => by omega⟩
      case round =>
        obtain ⟨q, hq, rfl, hB2, HE⟩ := hrel
        have HB2 := hid hB2
        clear hB2
        by_cases hqL : q < L.length
        · obtain ⟨x, hx, -⟩ := list_drop_cons L q hqL
          have hxn := HLT.out x (List.mem_of_getElem? hx)
          obtain ⟨gL, oL, rfl, hgL, hcL⟩ := HL.out.at (by rw [HC.out]; omega)
          have q2 := (HB2.out.cell (p := ⟨gL, oL + q, none⟩) hgL).trans (hcL q (x : Int) (castL_at hx))
          obtain ⟨hp, hps⟩ := HSM.out b q hbk (by omega)
          obtain ⟨hi, his⟩ := HSO.out b x hbk hxn
          have hxd : L.getD q 0 = x := by rw [List.getD, hx]; rfl
          have hok : okA M O L b q = if stp M q b < L.length then L.getD (stp M q b) 0 == stp O x b else !L.contains (stp O x b) := by unfold okA; rw [hxd]
          obtain ⟨gm, om, hbm, hgm, hcm⟩ := HROW.out.at (by have := (List.getElem?_eq_some_iff.1 hps).1; omega)
          obtain ⟨go', oo, hbo, hgo, hco⟩ := HROWO.out.at (by have := (List.getElem?_eq_some_iff.1 his).1; omega)
          subst hbm
          subst hbo
          have q3 := (HB2.out.cell (p := ⟨gm, om + q, none⟩) hgm).trans (hcm q _ hps)
          have q4 := (HB2.out.cell (p := ⟨gO, oO + b, none⟩) hgO).trans HQO.out
          have q5 := (HB2.out.cell (p := ⟨go', oo + x, none⟩) hgo).trans (hco x _ his)
          obtain ⟨p, hpp⟩ : ∃ p, p = stp M q b := ⟨_, rfl⟩
          obtain ⟨im, him⟩ : ∃ im, im = stp O x b := ⟨_, rfl⟩
          rw [← hpp] at hp q3 hok
          rw [← him] at hi q5 hok
          have HX := hid hx
          have HCL := hid hcL
          have i1 : (0 : Int) ≤ (q : Int) := by omega
          have i2 : (q : Int) < (n : Int) := by omega
          have i3 : (0 : Int) ≤ (b : Int) := by omega
          have i4 : (b : Int) < (k : Int) := by omega
          have i5 : (0 : Int) ≤ (x : Int) := by omega
          have i6 : (x : Int) < (n : Int) := by omega
          have HOK := hid hok
          clear hok hxd hps his hcm hco hpp him hx hcL
          go_wp2_with fail
          go_quiet (fail)
          have HB3 := hid (below_drewN HB2.out nq)
          clear q2 q3 q4 q5
          by_cases hpL : p < L.length
          · have hok2 := HOK.out
            rw [if_pos hpL] at hok2
            obtain ⟨y, hy, -⟩ := list_drop_cons L p hpL
            have hyd : L.getD p 0 = y := by rw [List.getD, hy]; rfl
            rw [hyd] at hok2
            have q6 := (HB3.out.cell (p := ⟨gL, oL + p, none⟩) hgL).trans (HCL.out p (y : Int) (castL_at hy))
            have e1 := nat_ne y im
            have d1 : decide (p < L.length) = true := decide_eq_true hpL
            have d2 : decide ((p : Int) ≥ (L.length : Int)) = false := decide_eq_false (by omega)
            have d3 : decide (L.length ≤ p) = false := decide_eq_false (by omega)
            clear hy hyd
            by_cases hyi : y = im
            · have HOK2 := hid (show okA M O L b q = true by rw [hok2]; simp [hyi])
              rw [show (y != im) = false by simp [hyi]] at e1
              have HN := hid (show ∀ q', q' < q + 1 → okA M O L b q' = true from fun q' h => by
                rcases Nat.lt_or_ge q' q with h1 | h1
                · exact HE.out q' h1
                · rw [show q' = q by omega]; exact HOK2.out)
              clear hok2 hyi HOK2 HE
              go_wp2_with fail
              exact ⟨⟨q + 1, by omega, by go_num, HB3.out, HN⟩, by simp [intOf]; omega⟩
            · have hnot : agreeB M O L = false := by
                rw [← Bool.not_eq_true, HAI.out]
                intro h
                have := h b q hbk hqL
                rw [hok2] at this
                exact hyi (by simpa using this)
              have HN := hid hnot
              rw [show (y != im) = true by simp [hyi]] at e1
              clear hok2 hyi hnot HE
              go_wp2_with fail
              go_ret
              exact ⟨ret_bool HN.out.symm, HB3.out⟩
          · have hok2 := HOK.out
            rw [if_neg hpL] at hok2
            have d1 : decide (p < L.length) = false := decide_eq_false hpL
            have d2 : decide ((p : Int) ≥ (L.length : Int)) = true := decide_eq_true (by omega)
            have d3 : decide (L.length ≤ p) = true := decide_eq_true (by omega)
            have CC := hid (CT.out im _ HB3.out)
            cases hc : L.contains im with
            | true =>
              rw [hc] at hok2 CC
              have hnot : agreeB M O L = false := by
                rw [← Bool.not_eq_true, HAI.out]
                intro h
                have := h b q hbk hqL
                rw [hok2] at this
                cases this
              have HN := hid hnot
              clear hok2 hnot HE hc
              go_wp2_with fail
              refine CC.out.mono ?_
              rintro e w5 ⟨rfl, rfl⟩
              go_wp2_with fail
              go_ret
              exact ⟨ret_bool HN.out.symm, HB3.out⟩
            | false =>
              rw [hc] at hok2 CC
              have HOK2 := hid (show okA M O L b q = true by rw [hok2]; rfl)
              have HN := hid (show ∀ q', q' < q + 1 → okA M O L b q' = true from fun q' h => by
                rcases Nat.lt_or_ge q' q with h1 | h1
                · exact HE.out q' h1
                · rw [show q' = q by omega]; exact HOK2.out)
              clear hok2 HOK2 HE hc
              go_wp2_with fail
              refine CC.out.mono ?_
              rintro e w5 ⟨rfl, rfl⟩
              go_wp2_with fail
              exact ⟨⟨q + 1, by omega, by go_num, HB3.out, HN⟩, by simp [intOf]; omega⟩
        · have HN := hid (show ∀ b' q, b' < b + 1 → q < L.length → okA M O L b' q = true from fun b' q' h h2 => by
            rcases Nat.lt_or_ge b' b with h1 | h1
            · exact HD.out b' q' h1 h2
            · rw [show b' = b by omega]; exact HE.out q' (by omega))
          clear HD HE
          go_wp2_with fail
          exact ⟨⟨b + 1, by omega, by go_num, HB2.out, HN⟩, by simp [intOf]; omega⟩
    · have hyes : agreeB M O L = true := HAI.out.2 fun b' q h h2 => HD.out b' q (by omega) h2
      have HN := hid hyes
      clear hyes HD
      go_wp2_with fail
      go_ret
      exact ⟨ret_bool HN.out.symm, HB.out⟩
end Go.Proofs.YthlgdakdjikjhaaDoor
