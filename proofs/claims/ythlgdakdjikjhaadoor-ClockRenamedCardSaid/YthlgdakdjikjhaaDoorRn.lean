/-
  Walks: the reference's Same.
-/
import Derived.Test.YthlgdakdjikjhaaDoorSm
namespace Go.Proofs.YthlgdakdjikjhaaDoor
open Go.RowKit Go.ChangeMaps
attribute [local go_sem] Oper.semAt_some

def condR (M O : List (List Nat)) (f : Nat) (L : List Nat) (q : Nat) : Bool := !L.contains q && renF M O f (L ++ [q])
theorem take_contains_succ {L : List Nat} {i y x : Nat} (h : L[i]? = some y) : (L.take (i + 1)).contains x = ((L.take i).contains x || (y == x)) := by
  obtain ⟨hi, rfl⟩ := List.getElem?_eq_some_iff.1 h
  rw [List.take_succ_eq_append_getElem hi, Bool.eq_iff_iff]
  simp only [List.contains_iff_mem, Bool.or_eq_true, List.mem_append, List.mem_singleton, beq_iff_eq]
  exact ⟨fun h => h.imp id (fun h => h.symm), fun h => h.imp id (fun h => h.symm)⟩

set_option maxRecDepth 100000 in
set_option maxHeartbeats 16000000 in
theorem ren_any (a : Option Addr) (c : Nat) (M : List (List Nat)) (a' : Option Addr) (c' : Nat) (O : List (List Nat)) (w0 : World) (hM : OkM M) (hO : OkM O) (hk : M.length = O.length) (hn : nst M = nst O) (hr : RowsAt w0 a (intM M)) (hr' : RowsAt w0 a' (intM O)) :
    ∀ (f : Nat) (L : List Nat) (an : Option Addr) (cn : Nat) (w : World), Below w0.heap.size w0 w → Ints w an (castL L) → (an = none → cn = 0) → L.length ≤ cn → L.length + f = nst M → (∀ x ∈ L, x < nst M) →
      Calls Tryd.prog 66 #[.slice a M.length c, .slice a' O.length c', .slice an L.length cn] w fun e w' => e = .returned (.bool (renF M O f L)) ∧ Below w.heap.size w w' := by
  intro f
  induction f with
  | zero =>
    intro L an cn w hb hL hnn hcn hl hlt
    obtain ⟨g0, o0, b0, c0, ha0, hg0, q0⟩ := head_at hM hr
    have hn9 := hM.n9
    have hb4 := hM.b4
    have hm1 := hM.b1
    have HRM := hid (fun b hb' => row_at hM hr b hb')
    have HRO := hid (fun b hb' => row_at hO hr' b hb')
    have HL := hid hL
    have HLT := hid hlt
    have HBW := hid hb
    have HNN := hid hnn
    have HSM := hid (fun (b q : Nat) (hb : b < M.length) (hq : q < nst M) => And.intro (stp_lt hM hb hq) (stp_row (M := M) (b := b) (q := q) (by rw [hM.row _ (getD_mem hb)]; exact hq)))
    have HSO := hid (fun (b q : Nat) (hb : b < M.length) (hq : q < nst M) => And.intro (stp_lt hO (q := q) (b := b) (by omega) (by omega)) (stp_row (M := O) (b := b) (q := q) (by rw [hO.row _ (getD_mem (by omega))]; omega)))
    rw [← hn] at HSO HRO
    rw [← hk] at HRO
    have HCI := hid (cons_iff M O L)
    have HC := hid (castL_len L)
    have HRF := hid (show renF M O 0 L = (consB M O L && decide (L.length = nst M)) from rfl)
    subst ha0
    obtain ⟨k, hkk⟩ : ∃ k, k = M.length := ⟨_, rfl⟩
    rw [← hk, ← hkk]
    rw [← hkk] at HRM HRO HSM HSO HCI hb4 hm1
    have q0 := (hb.cell (p := ⟨g0, o0, none⟩) hg0).trans q0
    have hg0 := Nat.lt_of_lt_of_le hg0 hb.size
    have HLL := hid hl
    clear hM hO hr hr' hL hlt hn hk hkk hb hnn hl
    generalize nst M = n at *
    go_enter Tryd.func66, Tryd.ntmps66
    go_wp2_with fail
    go_loopw [8] (fun bv W => ∃ b : Nat, b ≤ k ∧ bv = .int .i64 b ∧ Below w.heap.size w W ∧ Hid (∀ b' q, b' < b → q < L.length → okC M O L b' q = true)) (fun bv _ => k - (intOf bv).toNat)
    case atStart => exact ⟨0, by omega, rfl, Below.refl _ _, fun b' q h => by omega⟩
    case round =>
      obtain ⟨b, hb, rfl, hB, HD⟩ := hrel
      have HB := hid hB
      clear hB
      by_cases hbk : b < k
      · have dbk : decide (b < k) = true := decide_eq_true hbk
        obtain ⟨gM, oM, bM, cM, ha, hgM, qM, hrow⟩ := HRM.out b hbk
        obtain ⟨gO, oO, bO, cO, ha', hgO, qO, hrowO⟩ := HRO.out b hbk
        cases ha
        subst ha'
        have HROW := hid hrow
        have HROWO := hid hrowO
        have HQO := hid qO
        have HQM := hid qM
        clear hrow hrowO qM qO
        go_wp2_with fail
        go_loopw [9] (fun qv W => ∃ q : Nat, q ≤ L.length ∧ qv = .int .i64 q ∧ Below w.heap.size w W ∧ Hid (∀ q', q' < q → okC M O L b q' = true)) (fun qv _ => L.length - (intOf qv).toNat)
        case atStart => exact ⟨0, by omega, rfl, HB.out, fun q' h => by omega⟩
        case round =>
          obtain ⟨q, hq, rfl, hB2, HE⟩ := hrel
          have HB2 := hid hB2
          have HB20 := hid (HBW.out.trans (hB2.mono HBW.out.size))
          clear hB2
          by_cases hqL : q < L.length
          · have dql : decide (q < L.length) = true := decide_eq_true hqL
            obtain ⟨x, hx, -⟩ := list_drop_cons L q hqL
            have hxn := HLT.out x (List.mem_of_getElem? hx)
            obtain ⟨gL, oL, hadr, hgL, hcL⟩ := HL.out.at (by rw [HC.out]; omega)
            subst hadr
            have q2 := (HB2.out.cell (p := ⟨gL, oL + q, none⟩) hgL).trans (hcL q (x : Int) (castL_at hx))
            have hLn := HLL.out
            obtain ⟨hp, hps⟩ := HSM.out b q hbk (by omega)
            obtain ⟨hi, his⟩ := HSO.out b x hbk hxn
            have hxd : L.getD q 0 = x := by rw [List.getD, hx]; rfl
            have hok : okC M O L b q = (!decide (stp M q b < L.length) || L.getD (stp M q b) 0 == stp O x b) := by unfold okC; rw [hxd]
            obtain ⟨gm, om, hbm, hgm, hcm⟩ := HROW.out.at (by have := (List.getElem?_eq_some_iff.1 hps).1; omega)
            obtain ⟨go', oo, hbo, hgo, hco⟩ := HROWO.out.at (by have := (List.getElem?_eq_some_iff.1 his).1; omega)
            subst hbm
            subst hbo
            have q1 := (HB20.out.cell (p := ⟨g0, o0 + b, none⟩) hgM).trans HQM.out
            have q3 := (HB20.out.cell (p := ⟨gm, om + q, none⟩) hgm).trans (hcm q _ hps)
            have q4 := (HB20.out.cell (p := ⟨gO, oO + b, none⟩) hgO).trans HQO.out
            have q5 := (HB20.out.cell (p := ⟨go', oo + x, none⟩) hgo).trans (hco x _ his)
            obtain ⟨p, hpp⟩ : ∃ p, p = stp M q b := ⟨_, rfl⟩
            obtain ⟨im, him⟩ : ∃ im, im = stp O x b := ⟨_, rfl⟩
            rw [← hpp] at hp q3 hok
            rw [← him] at hi q5 hok
            have HX := hid hx
            have HCL := hid hcL
            have i1 : (0 : Int) ≤ (q : Int) := by omega
            have i2 : (q : Int) < (n : Int) := by omega
            have i3 : (0 : Int) ≤ (b : Int) := by omega
            have i4 : (b : Int) < (k : Int) := by omega
            have i5 : (0 : Int) ≤ (x : Int) := by omega
            have i6 : (x : Int) < (n : Int) := by omega
            have i7 : (q : Int) < (L.length : Int) := by omega
            have HOK := hid hok
            clear hok hxd hps his hcm hco hpp him hx hcL hLn
            by_cases hpL : p < L.length
            · have hok2 := HOK.out
              rw [decide_eq_true hpL, Bool.not_true, Bool.false_or] at hok2
              obtain ⟨y, hy, -⟩ := list_drop_cons L p hpL
              have hyd : L.getD p 0 = y := by rw [List.getD, hy]; rfl
              rw [hyd] at hok2
              have q6 := (HB2.out.cell (p := ⟨gL, oL + p, none⟩) hgL).trans (HCL.out p (y : Int) (castL_at hy))
              have e1 := nat_ne y im
              have d1 : decide (p < L.length) = true := decide_eq_true hpL
              have d1' : decide ((p : Int) < (L.length : Int)) = true := decide_eq_true (by omega)
              have i8 : (0 : Int) ≤ (p : Int) := by omega
              have i9 : (p : Int) < (L.length : Int) := by omega
              clear hy hyd
              by_cases hyi : y = im
              · have HOK2 := hid (show okC M O L b q = true by rw [hok2]; simp [hyi])
                rw [show (y != im) = false by simp [hyi]] at e1
                have HN := hid (show ∀ q', q' < q + 1 → okC M O L b q' = true from fun q' h => by
                  rcases Nat.lt_or_ge q' q with h1 | h1
                  · exact HE.out q' h1
                  · rw [show q' = q by omega]; exact HOK2.out)
                clear hok2 hyi HOK2 HE
                go_wp2_with fail
                go_quiet (fail)
                have HB3 := hid (below_drewN HB2.out nq)
                go_wp2_with fail
                exact ⟨⟨q + 1, by omega, by go_num, HB3.out, HN⟩, by simp [intOf]; omega⟩
              · have hnot : consB M O L = false := by
                  rw [← Bool.not_eq_true, HCI.out]
                  intro h
                  have := h b q hbk hqL
                  rw [hok2] at this
                  exact hyi (by simpa using this)
                have HN := hid (show renF M O 0 L = false by rw [HRF.out, hnot, Bool.false_and])
                rw [show (y != im) = true by simp [hyi]] at e1
                clear hok2 hyi hnot HE
                go_wp2_with fail
                go_quiet (fail)
                have HB3 := hid (below_drewN HB2.out nq)
                go_wp2_with fail
                go_ret
                exact ⟨ret_bool HN.out.symm, HB3.out⟩
            · have hok2 := HOK.out
              rw [decide_eq_false hpL, Bool.not_false, Bool.true_or] at hok2
              have d1 : decide (p < L.length) = false := decide_eq_false hpL
              have d1' : decide ((p : Int) < (L.length : Int)) = false := decide_eq_false (by omega)
              have HOK2 := hid hok2
              have HN := hid (show ∀ q', q' < q + 1 → okC M O L b q' = true from fun q' h => by
                rcases Nat.lt_or_ge q' q with h1 | h1
                · exact HE.out q' h1
                · rw [show q' = q by omega]; exact HOK2.out)
              clear hok2 HOK2 HE
              go_wp2_with fail
              go_quiet (fail)
              have HB3 := hid (below_drewN HB2.out nq)
              go_wp2_with fail
              exact ⟨⟨q + 1, by omega, by go_num, HB3.out, HN⟩, by simp [intOf]; omega⟩
          · have dql : decide (q < L.length) = false := decide_eq_false hqL
            have HN := hid (show ∀ b' q, b' < b + 1 → q < L.length → okC M O L b' q = true from fun b' q' h h2 => by
              rcases Nat.lt_or_ge b' b with h1 | h1
              · exact HD.out b' q' h1 h2
              · rw [show b' = b by omega]; exact HE.out q' (by omega))
            clear HD HE
            go_wp2_with fail
            exact ⟨⟨b + 1, by omega, by go_num, HB2.out, HN⟩, by simp [intOf]; omega⟩
      · have dbk : decide (b < k) = false := decide_eq_false hbk
        have hyes : consB M O L = true := HCI.out.2 fun b' q h h2 => HD.out b' q (by omega) h2
        have HN := hid (show renF M O 0 L = true by rw [HRF.out, hyes, decide_eq_true (by have := HLL.out; omega)]; rfl)
        have e1 : ((L.length : Int) == (n : Int)) = true := beq_iff_eq.2 (by have := HLL.out; omega)
        clear hyes HD
        go_wp2_with fail
        go_ret
        exact ⟨ret_bool HN.out.symm, HB.out⟩
  | succ f ih =>
    intro L an cn w hb hL hnn hcn hl hlt
    obtain ⟨g0, o0, b0, c0, ha0, hg0, q0⟩ := head_at hM hr
    have hn9 := hM.n9
    have hb4 := hM.b4
    have hm1 := hM.b1
    have HRM := hid (fun b hb' => row_at hM hr b hb')
    have HRO := hid (fun b hb' => row_at hO hr' b hb')
    have HL := hid hL
    have HLT := hid hlt
    have HBW := hid hb
    have HNN := hid hnn
    have HSM := hid (fun (b q : Nat) (hb : b < M.length) (hq : q < nst M) => And.intro (stp_lt hM hb hq) (stp_row (M := M) (b := b) (q := q) (by rw [hM.row _ (getD_mem hb)]; exact hq)))
    have HSO := hid (fun (b q : Nat) (hb : b < M.length) (hq : q < nst M) => And.intro (stp_lt hO (q := q) (b := b) (by omega) (by omega)) (stp_row (M := O) (b := b) (q := q) (by rw [hO.row _ (getD_mem (by omega))]; omega)))
    rw [← hn] at HSO HRO
    rw [← hk] at HRO
    have HCI := hid (cons_iff M O L)
    have HC := hid (castL_len L)
    have HRF := hid (show renF M O (f + 1) L = (consB M O L && (decide (L.length = nst M) || (List.range (nst M)).any fun q => !L.contains q && renF M O f (L ++ [q]))) from rfl)
    subst ha0
    obtain ⟨k, hkk⟩ : ∃ k, k = M.length := ⟨_, rfl⟩
    rw [← hk, ← hkk]
    rw [← hkk] at HRM HRO HSM HSO HCI hb4 hm1
    have q0 := (hb.cell (p := ⟨g0, o0, none⟩) hg0).trans q0
    have hg0 := Nat.lt_of_lt_of_le hg0 hb.size
    have IHH := hid (fun (x : Nat) (a2 : Option Addr) (c2 : Nat) (W : World) (hb' : Below w.heap.size w W) (h1 : Ints W a2 (castL (L ++ [x]))) (h2 : a2 = none → c2 = 0) (h3 : (L ++ [x]).length ≤ c2) (hx : x < nst M) =>
      ih (L ++ [x]) a2 c2 W (hb.trans (hb'.mono hb.size)) h1 h2 h3 (by rw [List.length_append, List.length_singleton]; omega) (snoc_lt hlt hx))
    rw [← hk, ← hkk] at IHH
    have HLL := hid hl
    clear hM hO hr hr' hL hlt hn hk hkk hb hnn hl ih
    generalize nst M = n at *
    go_enter Tryd.func66, Tryd.ntmps66
    go_wp2_with fail
    go_loopw [8] (fun bv W => ∃ b : Nat, b ≤ k ∧ bv = .int .i64 b ∧ Below w.heap.size w W ∧ Hid (∀ b' q, b' < b → q < L.length → okC M O L b' q = true)) (fun bv _ => k - (intOf bv).toNat)
    case atStart => exact ⟨0, by omega, rfl, Below.refl _ _, fun b' q h => by omega⟩
    case round =>
      obtain ⟨b, hb, rfl, hB, HD⟩ := hrel
      have HB := hid hB
      clear hB
      by_cases hbk : b < k
      · have dbk : decide (b < k) = true := decide_eq_true hbk
        obtain ⟨gM, oM, bM, cM, ha, hgM, qM, hrow⟩ := HRM.out b hbk
        obtain ⟨gO, oO, bO, cO, ha', hgO, qO, hrowO⟩ := HRO.out b hbk
        cases ha
        subst ha'
        have HROW := hid hrow
        have HROWO := hid hrowO
        have HQO := hid qO
        have HQM := hid qM
        clear hrow hrowO qM qO
        go_wp2_with fail
        go_loopw [9] (fun qv W => ∃ q : Nat, q ≤ L.length ∧ qv = .int .i64 q ∧ Below w.heap.size w W ∧ Hid (∀ q', q' < q → okC M O L b q' = true)) (fun qv _ => L.length - (intOf qv).toNat)
        case atStart => exact ⟨0, by omega, rfl, HB.out, fun q' h => by omega⟩
        case round =>
          obtain ⟨q, hq, rfl, hB2, HE⟩ := hrel
          have HB2 := hid hB2
          have HB20 := hid (HBW.out.trans (hB2.mono HBW.out.size))
          clear hB2
          by_cases hqL : q < L.length
          · have dql : decide (q < L.length) = true := decide_eq_true hqL
            obtain ⟨x, hx, -⟩ := list_drop_cons L q hqL
            have hxn := HLT.out x (List.mem_of_getElem? hx)
            obtain ⟨gL, oL, hadr, hgL, hcL⟩ := HL.out.at (by rw [HC.out]; omega)
            subst hadr
            have q2 := (HB2.out.cell (p := ⟨gL, oL + q, none⟩) hgL).trans (hcL q (x : Int) (castL_at hx))
            have hLn := HLL.out
            obtain ⟨hp, hps⟩ := HSM.out b q hbk (by omega)
            obtain ⟨hi, his⟩ := HSO.out b x hbk hxn
            have hxd : L.getD q 0 = x := by rw [List.getD, hx]; rfl
            have hok : okC M O L b q = (!decide (stp M q b < L.length) || L.getD (stp M q b) 0 == stp O x b) := by unfold okC; rw [hxd]
            obtain ⟨gm, om, hbm, hgm, hcm⟩ := HROW.out.at (by have := (List.getElem?_eq_some_iff.1 hps).1; omega)
            obtain ⟨go', oo, hbo, hgo, hco⟩ := HROWO.out.at (by have := (List.getElem?_eq_some_iff.1 his).1; omega)
            subst hbm
            subst hbo
            have q1 := (HB20.out.cell (p := ⟨g0, o0 + b, none⟩) hgM).trans HQM.out
            have q3 := (HB20.out.cell (p := ⟨gm, om + q, none⟩) hgm).trans (hcm q _ hps)
            have q4 := (HB20.out.cell (p := ⟨gO, oO + b, none⟩) hgO).trans HQO.out
            have q5 := (HB20.out.cell (p := ⟨go', oo + x, none⟩) hgo).trans (hco x _ his)
            obtain ⟨p, hpp⟩ : ∃ p, p = stp M q b := ⟨_, rfl⟩
            obtain ⟨im, him⟩ : ∃ im, im = stp O x b := ⟨_, rfl⟩
            rw [← hpp] at hp q3 hok
            rw [← him] at hi q5 hok
            have HX := hid hx
            have HCL := hid hcL
            have i1 : (0 : Int) ≤ (q : Int) := by omega
            have i2 : (q : Int) < (n : Int) := by omega
            have i3 : (0 : Int) ≤ (b : Int) := by omega
            have i4 : (b : Int) < (k : Int) := by omega
            have i5 : (0 : Int) ≤ (x : Int) := by omega
            have i6 : (x : Int) < (n : Int) := by omega
            have i7 : (q : Int) < (L.length : Int) := by omega
            have HOK := hid hok
            clear hok hxd hps his hcm hco hpp him hx hcL hLn
            by_cases hpL : p < L.length
            · have hok2 := HOK.out
              rw [decide_eq_true hpL, Bool.not_true, Bool.false_or] at hok2
              obtain ⟨y, hy, -⟩ := list_drop_cons L p hpL
              have hyd : L.getD p 0 = y := by rw [List.getD, hy]; rfl
              rw [hyd] at hok2
              have q6 := (HB2.out.cell (p := ⟨gL, oL + p, none⟩) hgL).trans (HCL.out p (y : Int) (castL_at hy))
              have e1 := nat_ne y im
              have d1 : decide (p < L.length) = true := decide_eq_true hpL
              have d1' : decide ((p : Int) < (L.length : Int)) = true := decide_eq_true (by omega)
              have i8 : (0 : Int) ≤ (p : Int) := by omega
              have i9 : (p : Int) < (L.length : Int) := by omega
              clear hy hyd
              by_cases hyi : y = im
              · have HOK2 := hid (show okC M O L b q = true by rw [hok2]; simp [hyi])
                rw [show (y != im) = false by simp [hyi]] at e1
                have HN := hid (show ∀ q', q' < q + 1 → okC M O L b q' = true from fun q' h => by
                  rcases Nat.lt_or_ge q' q with h1 | h1
                  · exact HE.out q' h1
                  · rw [show q' = q by omega]; exact HOK2.out)
                clear hok2 hyi HOK2 HE
                go_wp2_with fail
                go_quiet (fail)
                have HB3 := hid (below_drewN HB2.out nq)
                go_wp2_with fail
                exact ⟨⟨q + 1, by omega, by go_num, HB3.out, HN⟩, by simp [intOf]; omega⟩
              · have hnot : consB M O L = false := by
                  rw [← Bool.not_eq_true, HCI.out]
                  intro h
                  have := h b q hbk hqL
                  rw [hok2] at this
                  exact hyi (by simpa using this)
                have HN := hid (show renF M O (f + 1) L = false by rw [HRF.out, hnot, Bool.false_and])
                rw [show (y != im) = true by simp [hyi]] at e1
                clear hok2 hyi hnot HE
                go_wp2_with fail
                go_quiet (fail)
                have HB3 := hid (below_drewN HB2.out nq)
                go_wp2_with fail
                go_ret
                exact ⟨ret_bool HN.out.symm, HB3.out⟩
            · have hok2 := HOK.out
              rw [decide_eq_false hpL, Bool.not_false, Bool.true_or] at hok2
              have d1 : decide (p < L.length) = false := decide_eq_false hpL
              have d1' : decide ((p : Int) < (L.length : Int)) = false := decide_eq_false (by omega)
              have HOK2 := hid hok2
              have HN := hid (show ∀ q', q' < q + 1 → okC M O L b q' = true from fun q' h => by
                rcases Nat.lt_or_ge q' q with h1 | h1
                · exact HE.out q' h1
                · rw [show q' = q by omega]; exact HOK2.out)
              clear hok2 HOK2 HE
              go_wp2_with fail
              go_quiet (fail)
              have HB3 := hid (below_drewN HB2.out nq)
              go_wp2_with fail
              exact ⟨⟨q + 1, by omega, by go_num, HB3.out, HN⟩, by simp [intOf]; omega⟩
          · have dql : decide (q < L.length) = false := decide_eq_false hqL
            have HN := hid (show ∀ b' q, b' < b + 1 → q < L.length → okC M O L b' q = true from fun b' q' h h2 => by
              rcases Nat.lt_or_ge b' b with h1 | h1
              · exact HD.out b' q' h1 h2
              · rw [show b' = b by omega]; exact HE.out q' (by omega))
            clear HD HE
            go_wp2_with fail
            exact ⟨⟨b + 1, by omega, by go_num, HB2.out, HN⟩, by simp [intOf]; omega⟩
      · have dbk : decide (b < k) = false := decide_eq_false hbk
        have hyes : consB M O L = true := HCI.out.2 fun b' q h h2 => HD.out b' q (by omega) h2
        have HN := hid (show renF M O (f + 1) L = (List.range n).any (condR M O f L) by
          rw [HRF.out, hyes, decide_eq_false (by have := HLL.out; omega), Bool.false_or, Bool.true_and]; rfl)
        have e1 : ((L.length : Int) == (n : Int)) = false := beq_eq_false_iff_ne.2 (by have := HLL.out; omega)
        have hLn := HLL.out
        clear hyes HD
        go_wp2_with fail
        go_loopw [11] (fun xv W => ∃ x : Nat, x ≤ n ∧ xv = .int .i64 x ∧ Below w.heap.size w W ∧ Hid (∀ x', x' < x → condR M O f L x' = false)) (fun xv _ => n - (intOf xv).toNat)
        case atStart => exact ⟨0, by omega, rfl, HB.out, fun q' h => by omega⟩
        case round =>
          obtain ⟨x, hx, rfl, hB3, HE⟩ := hrel
          have HB3 := hid hB3
          clear hB3
          by_cases hxn : x < n
          · have dxn : decide (x < n) = true := decide_eq_true hxn
            obtain ⟨wo, rfl⟩ : ∃ wo : World, wo = wr := ⟨_, rfl⟩
            go_wp2_with fail
            go_loop [12, 13] (fun uv iv => ∃ (i : Nat) (u : Bool), i ≤ L.length ∧ iv = .int .i64 i ∧ uv = .bool u ∧ Hid (u = (L.take i).contains x)) (fun _ iv => L.length - (intOf iv).toNat)
            case atStart => exact ⟨0, false, by omega, rfl, rfl, rfl⟩
            case round =>
              obtain ⟨i, u, hi, rfl, rfl, HU⟩ := hrel
              by_cases hil : i < L.length
              · have dil : decide (i < L.length) = true := decide_eq_true hil
                obtain ⟨y, hy, -⟩ := list_drop_cons L i hil
                obtain ⟨gL, oL, hadr, hgL, hcL⟩ := HL.out.at (by rw [HC.out]; omega)
                subst hadr
                have q2 := (HB3.out.cell (p := ⟨gL, oL + i, none⟩) hgL).trans (hcL i (y : Int) (castL_at hy))
                have htk := take_contains_succ (x := x) hy
                rw [← HU.out] at htk
                have HTK := hid htk
                have e2 := nat_eq y x
                clear htk hy hcL HU
                cases u with
                | true =>
                  have HN2 := hid (show true = (L.take (i + 1)).contains x by rw [HTK.out]; rfl)
                  go_wp2_with fail
                  exact ⟨⟨i + 1, true, by omega, by go_num, rfl, HN2⟩, by simp [intOf]; omega⟩
                | false =>
                  have HN2 := hid (show (y == x) = (L.take (i + 1)).contains x by rw [HTK.out, Bool.false_or])
                  go_wp2_with fail
                  exact ⟨⟨i + 1, y == x, by omega, by go_num, rfl, HN2⟩, by simp [intOf]; omega⟩
              · have dil : decide (i < L.length) = false := decide_eq_false hil
                have hu : u = L.contains x := by rw [HU.out, List.take_of_length_le (by omega)]
                have HU2 := hid hu
                clear hu HU
                cases u with
                | true =>
                  have HN2 := hid (show ∀ x', x' < x + 1 → condR M O f L x' = false from fun x' h => by
                    rcases Nat.lt_or_ge x' x with h1 | h1
                    · exact HE.out x' h1
                    · rw [show x' = x by omega]; unfold condR; rw [← HU2.out]; rfl)
                  clear HE
                  go_wp2_with fail
                  exact ⟨⟨x + 1, by omega, by go_num, HB3.out, HN2⟩, by simp [intOf]; omega⟩
                | false =>
                  have HLW := hid (show Vals wo an (L.map natV) from by
                    have := HL.out.below HB3.out (Nat.le_refl _)
                    unfold Ints at this
                    rw [castL_inj] at this
                    exact this)
                  have hlm : L.length = (L.map natV).length := (List.length_map ..).symm
                  have HLM := hid hlm
                  clear hlm
                  go_wp2_with (at_builtin; go_must (refine wpList_app _ rfl (.tmp 84) (.tmp 85) 38 rfl wo.heap.size 3 (.int .i64 0) 8 Tryd.underlying38 Tryd.info3 rfl _ 0 [] rfl (World.ownsRow_nil _ _ _ _) an L.length cn _ rfl HLM.out HLW.out (fun h => by have := HNN.out h; omega) (natV_one _) (by omega) (by omega) (Nat.le_refl _) ?_))
                  intro v1 w1 hown1 hgrow1 _
                  have hb1 := (Below.refl wo.heap.size wo).grown hgrow1 (Nat.le_refl _) (by simp [Value.ownBlock])
                  replace hown1 : w1.ownsRow wo.heap.size 3 1 v1 L.length (L.map natV) := by simpa using hown1
                  have HO1 := hid hown1
                  have HB1 := hid hb1
                  have hX : L.map natV ++ [.int .i64 (x : Int)] = (L ++ [x]).map natV := by rw [List.map_append]; rfl
                  have HX := hid hX
                  have hz1 := hb1.size
                  clear hown1 hgrow1 hb1 hX
                  go_wp2_with (at_builtin; go_must (refine wpList_app _ rfl (.tmp 89) (.tmp 91) 38 rfl wo.heap.size 3 (.int .i64 0) 8 Tryd.underlying38 Tryd.info3 rfl _ L.length _ rfl (HO1.out.alloc _) (some ⟨w1.heap.size, 0, none⟩) 1 1 [.int .i64 _] rfl rfl (vals_new _ _ _ _ rfl) (fun h => by cases h) (by simp [Value.oneCell']) (by omega) (by omega) (by simp; omega) ?_))
                  intro v2 w2 hown2 hgrow2 _
                  have hb2 := below_app (HB1.out.alloc hz1 _) hgrow2 (HO1.out.alloc _) (by simp; omega) (Nat.le_refl _)
                  rw [HX.out] at hown2
                  obtain ⟨a2, c2, rfl, -, -⟩ := ownsRow_vals hown2
                  rw [List.length_map, List.length_append, List.length_singleton] at hown2 ⊢
                  have hl1 : (L ++ [x]).length = L.length + 1 := by rw [List.length_append, List.length_singleton]
                  have HB2 := hid (HB3.out.trans (hb2.mono HB3.out.size))
                  rw [← hl1] at hown2
                  have CI := IHH.out x a2 c2 w2 HB2.out (own_ints hown2) (own_vals hown2).2.1 (own_vals hown2).2.2 hxn
                  rw [hl1] at CI
                  have CI := hid CI
                  clear hown2 hgrow2 hb2 hl1
                  cases hrn : renF M O f (L ++ [x]) with
                  | true =>
                    rw [hrn] at CI
                    have hyes2 : renF M O (f + 1) L = true := by
                      rw [HN.out, List.any_eq_true]
                      refine ⟨x, List.mem_range.2 hxn, ?_⟩
                      unfold condR
                      rw [← HU2.out, hrn]; rfl
                    have HY := hid hyes2
                    clear hyes2 hrn
                    go_wp2_with fail
                    refine CI.out.mono ?_
                    rintro e w3 ⟨rfl, hb3⟩
                    have HB4 := hid (HB2.out.trans (hb3.mono HB2.out.size))
                    clear hb3
                    go_wp2_with fail
                    go_ret
                    exact ⟨ret_bool HY.out.symm, HB4.out⟩
                  | false =>
                    rw [hrn] at CI
                    have HN2 := hid (show ∀ x', x' < x + 1 → condR M O f L x' = false from fun x' h => by
                      rcases Nat.lt_or_ge x' x with h1 | h1
                      · exact HE.out x' h1
                      · rw [show x' = x by omega]; unfold condR; rw [hrn, Bool.and_false])
                    clear HE hrn
                    go_wp2_with fail
                    refine CI.out.mono ?_
                    rintro e w3 ⟨rfl, hb3⟩
                    have HB4 := hid (HB2.out.trans (hb3.mono HB2.out.size))
                    clear hb3
                    go_wp2_with fail
                    exact ⟨⟨x + 1, by omega, by go_num, HB4.out, HN2⟩, by simp [intOf]; omega⟩
          · have dxn : decide (x < n) = false := decide_eq_false hxn
            have hf : renF M O (f + 1) L = false := by
              rw [HN.out, ← Bool.not_eq_true, List.any_eq_true]
              rintro ⟨y, hy, h⟩
              rw [HE.out y (by have := List.mem_range.1 hy; omega)] at h
              cases h
            have HF := hid hf
            clear hf HE
            go_wp2_with fail
            go_ret
            exact ⟨ret_bool HF.out.symm, HB3.out⟩
end Go.Proofs.YthlgdakdjikjhaaDoor
