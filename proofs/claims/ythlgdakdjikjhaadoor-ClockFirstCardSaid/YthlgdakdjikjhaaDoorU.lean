/-
  Walks: lists that are sets of states.
-/
import Derived.Test.YthlgdakdjikjhaaDoorLawMerges
import Derived.Test.YthlgdakdjikjhaaDoorSets
namespace Go.Proofs.YthlgdakdjikjhaaDoor
open Go.RowKit Go.ChangeMaps
attribute [local go_sem] Oper.semAt_some

def setRV (b : Bool) (s : Nat) : Value := if b then .tuple #[.int .i64 s, .bool true] else .tuple #[.int .i64 0, .bool false]
theorem prevA_some {l : List Int} {i : Nat} (h : 0 < i) (hi : i ≤ l.length) : ∃ p, prevA l i = some p ∧ l[i - 1]? = some p := by
  obtain ⟨j, rfl⟩ : ∃ j, i = j + 1 := ⟨i - 1, by omega⟩
  exact ⟨l[j], List.getElem?_eq_getElem (by omega), List.getElem?_eq_getElem (by omega)⟩
theorem okQ_split {n i : Nat} {l : List Int} {q : Int} (hi : i ≤ l.length) :
    (¬ (0 ≤ q ∧ q ≤ (n : Int) - 1) ∧ okQ n (prevA l i) q = false) ∨
    (0 ≤ q ∧ q ≤ (n : Int) - 1 ∧ i = 0 ∧ okQ n (prevA l i) q = true) ∨
    (0 ≤ q ∧ q ≤ (n : Int) - 1 ∧ 0 < i ∧ ∃ p, l[i - 1]? = some p ∧ ((q ≤ p ∧ okQ n (prevA l i) q = false) ∨ (p < q ∧ okQ n (prevA l i) q = true))) := by
  by_cases h : 0 ≤ q ∧ q ≤ (n : Int) - 1
  · right
    rcases Nat.eq_zero_or_pos i with h0 | h0
    · left
      subst h0
      exact ⟨h.1, h.2, rfl, (okQ_iff _ _ _).2 ⟨h.1, by omega, fun x hx => by cases hx⟩⟩
    · right
      obtain ⟨p, h1, h2⟩ := prevA_some h0 hi
      refine ⟨h.1, h.2, h0, p, h2, ?_⟩
      rcases Int.lt_or_le p q with h3 | h3
      · exact .inr ⟨h3, (okQ_iff _ _ _).2 ⟨h.1, by omega, fun x hx => by rw [h1] at hx; cases hx; exact h3⟩⟩
      · left
        refine ⟨h3, ?_⟩
        cases hq : okQ n (prevA l i) q with
        | false => rfl
        | true =>
          have := ((okQ_iff _ _ _).1 hq).2.2 p h1
          omega
  · left
    refine ⟨h, ?_⟩
    cases hq : okQ n (prevA l i) q with
    | false => rfl
    | true =>
      have := (okQ_iff _ _ _).1 hq
      exact absurd ⟨this.1, by omega⟩ h

set_option maxRecDepth 100000 in
set_option maxHeartbeats 4000000 in
theorem set_any (a : Option Addr) (c : Nat) (M : List (List Nat)) (a' : Option Addr) (c' : Nat) (l : List Int) (w : World) (hM : OkM M) (hr : RowsAt w a (intM M)) (hl : Ints w a' l) (hll : l.length ≤ 1000) :
    Calls Tryd.prog 57 #[.slice a M.length c, .slice a' l.length c'] w fun e w' => e = .returned (setRV (setB (nst M) l) (numL l)) ∧ w = w' := by
  have hn9 := hM.n9
  have hm1 := hM.b1
  obtain ⟨g, o, b1, c1, rfl, hg, q1⟩ := head_at hM hr
  have hbn := num_lt (n := nst M) (l := l)
  generalize nst M = n at *
  have HI := hid hl
  clear hM hr hl
  go_enter Tryd.func57, Tryd.ntmps57
  go_wp2_with fail
  go_loop [6, 11] (fun sv iv => ∃ i s : Nat, sv = .int .i64 s ∧ iv = .int .i64 i ∧ i ≤ l.length ∧ Hid (SetTo n l i s)) (fun _ iv => l.length - (intOf iv).toNat)
  case atStart => exact ⟨0, 0, rfl, rfl, by omega, SetTo.start n l⟩
  case round =>
    obtain ⟨i, s, rfl, rfl, hi, HS⟩ := hrel
    by_cases hlt : i < l.length
    · obtain ⟨q, hx, hd⟩ := list_drop_cons l i hlt
      obtain ⟨g2, o2, rfl, hg2, hcell⟩ := HI.out.at (by omega)
      have q2 := hcell i q hx
      have W1 := within_any q 0 ((n : Int) - 1) w
      rcases okQ_split (n := n) (q := q) hi with ⟨h, hq⟩ | ⟨h1, h2, h3, hq⟩ | ⟨h1, h2, h3, p, hp, hh⟩
      · rw [show (decide ((0 : Int) ≤ q) && decide (q ≤ (n : Int) - 1)) = false by simp; omega] at W1
        have hfin := HS.out.bad hd hq
        have HF := hid hfin
        have W1 := hid W1
        clear hfin hq hd hx hcell h
        go_wp2_with fail
        refine W1.out.mono ?_
        rintro e w2 ⟨rfl, rfl⟩
        go_wp2_with fail
        refine bodyPost_ret (results_tmp2 rfl _ _ _) rfl ?_
        rw [HF.out]
        exact ⟨rfl, rfl⟩
      · rw [show (decide ((0 : Int) ≤ q) && decide (q ≤ (n : Int) - 1)) = true by simp; omega] at W1
        have hst := HS.out.step hx hd hq
        have hbel := HS.out.below hq
        obtain ⟨Q, rfl⟩ := Int.eq_ofNat_of_zero_le h1
        have hs512 : s < 512 := Nat.lt_of_lt_of_le HS.out.lt (Nat.pow_le_pow_right (n := 2) (by omega) hn9)
        have d1 := or_pow s Q hs512 (by omega)
        rw [or_add (by simpa using hbel)] at d1
        have HST := hid hst
        have W1 := hid W1
        have d2 : decide ((i : Int) > 0) = false := decide_eq_false (by omega)
        have hi0 : ¬ 0 < i := by omega
        clear hst hq hd hx hcell h3 hbel
        go_wp2_with fail
        refine W1.out.mono ?_
        rintro e w2 ⟨rfl, rfl⟩
        go_wp2_with fail
        exact ⟨⟨i + 1, s + 2 ^ Q, by go_num, by go_num, by omega, HST⟩, by simp [intOf]; omega⟩
      · rw [show (decide ((0 : Int) ≤ q) && decide (q ≤ (n : Int) - 1)) = true by simp; omega] at W1
        have q3 := hcell (i - 1) p hp
        have d2 : decide ((i : Int) > 0) = true := decide_eq_true (by omega)
        have t1 : ((i : Int) - 1) = ((i - 1 : Nat) : Int) := by omega
        have W1 := hid W1
        rcases hh with ⟨h4, hq⟩ | ⟨h4, hq⟩
        · have hfin := HS.out.bad hd hq
          have HF := hid hfin
          have d3 : decide (p ≥ q) = true := decide_eq_true h4
          clear hfin hq hd hx hcell hp
          go_wp2_with fail
          refine W1.out.mono ?_
          rintro e w2 ⟨rfl, rfl⟩
          go_wp2_with fail
          refine bodyPost_ret (results_tmp2 rfl _ _ _) rfl ?_
          rw [HF.out]
          exact ⟨rfl, rfl⟩
        · have hst := HS.out.step hx hd hq
          have hbel := HS.out.below hq
          obtain ⟨Q, rfl⟩ := Int.eq_ofNat_of_zero_le h1
          have hs512 : s < 512 := Nat.lt_of_lt_of_le HS.out.lt (Nat.pow_le_pow_right (n := 2) (by omega) hn9)
          have d1 := or_pow s Q hs512 (by omega)
          rw [or_add (by simpa using hbel)] at d1
          have HST := hid hst
          have d3 : decide (p ≥ (Q : Int)) = false := decide_eq_false (by omega)
          clear hst hq hd hx hcell hbel hp
          go_wp2_with fail
          refine W1.out.mono ?_
          rintro e w2 ⟨rfl, rfl⟩
          go_wp2_with fail
          exact ⟨⟨i + 1, s + 2 ^ Q, by go_num, by go_num, by omega, HST⟩, by simp [intOf]; omega⟩
    · obtain ⟨k1, k2, -⟩ := HS.out.done (by omega)
      have HF := hid k1
      have HN := hid k2
      clear k1 k2
      go_wp2_with fail
      refine bodyPost_ret (results_tmp2 rfl _ _ _) rfl ?_
      rw [HF.out, HN.out]
      exact ⟨rfl, rfl⟩

set_option maxRecDepth 100000 in
set_option maxHeartbeats 4000000 in
theorem refSet_any (a : Option Addr) (c : Nat) (M : List (List Nat)) (a' : Option Addr) (c' : Nat) (l : List Int) (w : World) (hM : OkM M) (hr : RowsAt w a (intM M)) (hl : Ints w a' l) (hll : l.length ≤ 1000) :
    Calls Tryd.prog 32 #[.slice a M.length c, .slice a' l.length c'] w fun e w' => e = .returned (.bool (setB (nst M) l)) ∧ Below w.heap.size w w' := by
  have hn9 := hM.n9
  have hm1 := hM.b1
  obtain ⟨g, o, b1, c1, rfl, hg, q1⟩ := head_at hM hr
  generalize nst M = n at *
  have HI := hid hl
  clear hM hr hl
  go_enter Tryd.func32, Tryd.ntmps32
  go_wp2_with fail
  go_loopw [5] (fun iv W => ∃ i s : Nat, iv = .int .i64 i ∧ i ≤ l.length ∧ Below w.heap.size w W ∧ Hid (SetTo n l i s)) (fun iv _ => l.length - (intOf iv).toNat)
  case atStart => exact ⟨0, 0, rfl, by omega, Below.refl _ _, SetTo.start n l⟩
  case round =>
    obtain ⟨i, s, rfl, hi, hB, HS⟩ := hrel
    by_cases hlt : i < l.length
    · obtain ⟨q, hx, hd⟩ := list_drop_cons l i hlt
      obtain ⟨g2, o2, rfl, hg2, hcell⟩ := HI.out.at (by omega)
      have q2 := (hB.cell (p := ⟨g2, o2 + i, none⟩) hg2).trans (hcell i q hx)
      have q5 := (hB.cell (p := ⟨g, o, none⟩) hg).trans q1
      rcases okQ_split (n := n) (q := q) hi with ⟨h, hq⟩ | ⟨h1, h2, h3, hq⟩ | ⟨h1, h2, h3, p, hp, hh⟩
      · by_cases h0 : q < 0
        · have d1 : decide (q < 0) = true := decide_eq_true h0
          clear h
          have hfin := HS.out.bad hd hq
          have HF := hid hfin
          have HB := hid hB
          clear hfin hq hd hx hcell hB
          go_wp2_with fail
          go_quiet (fail)
          have HB2 := hid (below_drewN HB.out nq)
          go_wp2_with fail
          go_ret
          exact ⟨ret_bool HF.out.symm, HB2.out⟩
        · have d1 : decide (q < 0) = false := decide_eq_false h0
          have d2 : decide (q ≥ (n : Int)) = true := decide_eq_true (by omega)
          clear h
          have hfin := HS.out.bad hd hq
          have HF := hid hfin
          have HB := hid hB
          clear hfin hq hd hx hcell hB
          go_wp2_with fail
          go_quiet (fail)
          have HB2 := hid (below_drewN HB.out nq)
          go_wp2_with fail
          go_ret
          exact ⟨ret_bool HF.out.symm, HB2.out⟩
      · have d1 : decide (q < 0) = false := decide_eq_false (by omega)
        have d2 : decide (q ≥ (n : Int)) = false := decide_eq_false (by omega)
        have d3 : decide ((i : Int) > 0) = false := decide_eq_false (by omega)
        have d4 : decide (0 < i) = false := decide_eq_false (by omega)
        clear h3
        have hst := HS.out.step hx hd hq
        have HST := hid hst
        have HB := hid hB
        clear hst hq hd hx hcell hB
        go_wp2_with fail
        go_quiet (fail)
        have HB2 := hid (below_drewN HB.out nq)
        go_wp2_with fail
        exact ⟨⟨i + 1, _, by go_num, by omega, HB2.out, HST⟩, by simp [intOf]; omega⟩
      · have d1 : decide (q < 0) = false := decide_eq_false (by omega)
        have d2 : decide (q ≥ (n : Int)) = false := decide_eq_false (by omega)
        have d3 : decide ((i : Int) > 0) = true := decide_eq_true (by omega)
        have d4 : decide (0 < i) = true := decide_eq_true (by omega)
        have q3 := (hB.cell (p := ⟨g2, o2 + (i - 1), none⟩) hg2).trans (hcell (i - 1) p hp)
        have t1 : ((i : Int) - 1) = ((i - 1 : Nat) : Int) := by omega
        rcases hh with ⟨h4, hq⟩ | ⟨h4, hq⟩
        · have d5 : decide (p ≥ q) = true := decide_eq_true h4
          clear hp
          have hfin := HS.out.bad hd hq
          have HF := hid hfin
          have HB := hid hB
          clear hfin hq hd hx hcell hB
          go_wp2_with fail
          go_quiet (fail)
          have HB2 := hid (below_drewN HB.out nq)
          go_wp2_with fail
          go_ret
          exact ⟨ret_bool HF.out.symm, HB2.out⟩
        · have d5 : decide (p ≥ q) = false := decide_eq_false (by omega)
          clear hp
          have hst := HS.out.step hx hd hq
          have HST := hid hst
          have HB := hid hB
          clear hst hq hd hx hcell hB
          go_wp2_with fail
          go_quiet (fail)
          have HB2 := hid (below_drewN HB.out nq)
          go_wp2_with fail
          exact ⟨⟨i + 1, _, by go_num, by omega, HB2.out, HST⟩, by simp [intOf]; omega⟩
    · obtain ⟨k1, k2, -⟩ := HS.out.done (by omega)
      have HF := hid k1
      have HB := hid hB
      clear k1 k2 hB
      go_wp2_with fail
      go_ret
      exact ⟨ret_bool HF.out.symm, HB.out⟩

set_option maxRecDepth 100000 in
set_option maxHeartbeats 4000000 in
theorem refNumber_any (a : Option Addr) (c n : Nat) (l : List Int) (w : World) (hn9 : n ≤ 9) (hl : Ints w a l) (hll : l.length ≤ 1000) (hs : setB n l = true) :
    Calls Tryd.prog 34 #[.slice a l.length c] w fun e w' => e = .returned (.int .i64 (numL l)) ∧ w = w' := by
  have HI := hid hl
  have HSB := hid hs
  clear hl hs
  go_enter Tryd.func34, Tryd.ntmps34
  go_wp2_with fail
  go_loop [3, 4] (fun sv iv => ∃ i s : Nat, sv = .int .i64 s ∧ iv = .int .i64 i ∧ i ≤ l.length ∧ Hid (SetTo n l i s)) (fun _ iv => l.length - (intOf iv).toNat)
  case atStart => exact ⟨0, 0, rfl, rfl, by omega, SetTo.start n l⟩
  case round =>
    obtain ⟨i, s, rfl, rfl, hi, HS⟩ := hrel
    by_cases hlt : i < l.length
    · obtain ⟨q, hx, hd⟩ := list_drop_cons l i hlt
      obtain ⟨g2, o2, rfl, hg2, hcell⟩ := HI.out.at (by omega)
      have q2 := hcell i q hx
      have hq : okQ n (prevA l i) q = true := by
        cases hq : okQ n (prevA l i) q with
        | true => rfl
        | false => have := HS.out.bad hd hq; rw [HSB.out] at this; cases this
      obtain ⟨h1, h2, -⟩ := (okQ_iff _ _ _).1 hq
      have hst := HS.out.step hx hd hq
      obtain ⟨Q, rfl⟩ := Int.eq_ofNat_of_zero_le h1
      have hs512 : s < 512 := Nat.lt_of_lt_of_le HS.out.lt (Nat.pow_le_pow_right (n := 2) (by omega) hn9)
      have hp512 := pow_small Q (by omega)
      have d1 := pow_wrap Q (by omega)
      have HST := hid hst
      have d3 : ((s : Int) + ((2 ^ Q : Nat) : Int)) = ((s + 2 ^ Q : Nat) : Int) := by rw [Int.natCast_add]
      obtain ⟨y, hy⟩ : ∃ y, y = 2 ^ Q := ⟨_, rfl⟩
      have hty : (Q : Int).toNat = Q := by simp
      rw [hty] at HST
      rw [← hy] at d1 d3 HST hp512
      have dd : IntKind.i64.wrap ((s : Int) + wrap64 ((2 : Int) ^ Q)) = ((s + y : Nat) : Int) := by
        rw [d1, d3]; exact IntWalk.i64_in _ (by omega)
      clear hst hq hd hx hcell hy hty d1 d3
      go_wp2_with fail
      exact ⟨⟨i + 1, s + y, rfl, by go_num, by omega, HST⟩, by simp [intOf]; omega⟩
    · obtain ⟨-, k2, -⟩ := HS.out.done (by omega)
      have HN := hid k2
      clear k2
      go_wp2_with fail
      go_ret
      exact ⟨ret_int (by rw [HN.out]), rfl⟩
end Go.Proofs.YthlgdakdjikjhaaDoor
