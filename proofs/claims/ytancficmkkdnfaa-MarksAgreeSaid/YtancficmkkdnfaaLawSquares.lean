/-
  The law MarksSquares, walked.
-/
import Derived.Test.YtancficmkkdnfaaAbelQ
import Derived.Test.YtancficmkkdnfaaT
import Derived.Test.YtancficmkkdnfaaLawGreatest
namespace Go.Proofs.Ytancficmkkdnfaa
open Go.RowKit
attribute [local go_sem] Oper.semAt_some

set_option maxHeartbeats 400000 in
theorem Abelian_no (s : ByteArray) (w : World) (hw : wordB s.data.toList = false) : Calls Try.prog 48 #[.string s] w fun e w' => e = .returned (.tuple #[.int .i64 0, .int .i64 0, .int .i64 2]) ∧ Below w.heap.size w w' := by
  have HW := hid (isWord_any s w)
  rw [hw] at HW
  clear hw
  go_enter Try.func48, Try.ntmps48
  go_wp2_with fail
  refine HW.out.mono ?_
  rintro e w1 ⟨rfl, hb⟩
  go_wp2_with fail
  refine bodyPost_ret (results_tmp3 rfl _ _ _) rfl ?_
  exact ⟨rfl, hb⟩
theorem Square_word (s : ByteArray) (w : World) (hs : s.size ≤ 1000000) (hw : wordB s.data.toList = true) : Calls Try.prog 43 #[.string s] w fun e w' => e = .returned (abV (sq s.data.toList)) ∧ Below w.heap.size w w' := by
  refine (Square_any s w hs).mono ?_
  rintro e w' ⟨rfl, hb⟩
  refine ⟨?_, hb⟩
  rw [if_pos hw]
  unfold freeB
  cases sq s.data.toList with
  | none => rfl
  | some x => rfl
theorem Square_bad (s : ByteArray) (w : World) (hs : s.size ≤ 1000000) (hw : wordB s.data.toList = false) : Calls Try.prog 43 #[.string s] w fun e w' => e = .returned (.tuple #[.int .i64 0, .int .i64 0, .int .i64 2]) ∧ Below w.heap.size w w' := by
  refine (Square_any s w hs).mono ?_
  rintro e w' ⟨rfl, hb⟩
  refine ⟨?_, hb⟩
  rw [if_neg (by rw [hw]; simp)]
def refV (q : Option (Nat × Nat)) : Value := .tuple #[.int .i64 (at0 q), .int .i64 (at1 q), .bool q.isSome]

set_option maxRecDepth 100000 in
set_option maxHeartbeats 2000000 in
theorem squares_no (s0 s : ByteArray) (w : World) (hs : s.size ≤ 121) (SH : ∀ W, Hid (Calls Try.prog 19 #[.string s0] W fun e w' => e = .returned (.string s) ∧ W = w')) (hw : wordB s.data.toList = false) :
    Calls Try.prog 15 #[.string s0] w fun e w' => e = .returned (.bool true) ∧ Below w.heap.size w w' := by
  have S := fun W => hid (Square_bad s W (by omega) hw)
  have A := fun W => hid (Abelian_no s W hw)
  have P := fun W => hid (Periods_no s W hw)
  have RW := fun W => hid (refWord_any s W (by omega))
  rw [hw] at RW
  clear hw
  go_enter Try.func15, Try.ntmps15
  go_wp2_with fail
  refine (SH _).out.mono ?_
  rintro e w1 ⟨rfl, rfl⟩
  go_wp2_with fail
  refine (S _).out.mono ?_
  rintro e w1 ⟨rfl, hb1⟩
  go_wp2_with fail
  refine (A _).out.mono ?_
  rintro e w2 ⟨rfl, hb2⟩
  replace hb2 := hb1.trans (hb2.mono hb1.size)
  clear hb1
  go_wp2_with fail
  refine (P _).out.mono ?_
  rintro e w3 ⟨rfl, hb3⟩
  replace hb3 := hb2.trans (hb3.mono hb2.size)
  clear hb2
  go_wp2_with fail
  refine (RW _).out.mono ?_
  rintro e w4 ⟨rfl, rfl⟩
  go_wp2_with fail
  refine (awake_any _).mono ?_
  rintro e w9 ⟨rfl, hb9⟩
  go_wp2_with fail
  go_ret
  exact ⟨rfl, hb3.trans (hb9.mono hb3.size)⟩

set_option maxRecDepth 100000 in
set_option maxHeartbeats 4000000 in
theorem squares_in (s0 s : ByteArray) (q r : Option (Nat × Nat)) (L : List Nat) (w : World) (_hs : s.size ≤ 121) (hL : L.length ≤ 1000)
    (SH : ∀ W, Hid (Calls Try.prog 19 #[.string s0] W fun e w' => e = .returned (.string s) ∧ W = w'))
    (S : ∀ W, Hid (Calls Try.prog 43 #[.string s] W fun e w' => e = .returned (abV q) ∧ Below W.heap.size W w'))
    (A : ∀ W, Hid (Calls Try.prog 48 #[.string s] W fun e w' => e = .returned (abV r) ∧ Below W.heap.size W w'))
    (P : ∀ W, Hid (Calls Try.prog 46 #[.string s] W (RetP L W)))
    (RW : ∀ W, Hid (Calls Try.prog 22 #[.string s] W fun e w' => e = .returned (.bool true) ∧ W = w'))
    (RS : ∀ W, Hid (Calls Try.prog 50 #[.string s] W fun e w' => e = .returned (refV q) ∧ Below W.heap.size W w'))
    (RA : ∀ W, Hid (Calls Try.prog 51 #[.string s] W fun e w' => e = .returned (refV r) ∧ Below W.heap.size W w'))
    (RP : ∀ W, Hid (Calls Try.prog 25 #[.string s] W (RetN L W))) :
    Calls Try.prog 15 #[.string s0] w fun e w' => e = .returned (.bool true) ∧ Below w.heap.size w w' := by
  cases q <;> cases r <;> simp only [abV, refV, at0, at1, Option.map_some, Option.map_none, Option.getD_some, Option.getD_none, Option.isSome_some, Option.isSome_none] at S A RS RA
  all_goals
    go_enter Try.func15, Try.ntmps15
    go_wp2_with fail
    refine (SH _).out.mono ?_
    rintro e w1 ⟨rfl, rfl⟩
    go_wp2_with fail
    refine (S _).out.mono ?_
    rintro e w1 ⟨rfl, hb1⟩
    go_wp2_with fail
    refine (A _).out.mono ?_
    rintro e w2 ⟨rfl, hb2⟩
    replace hb2 := hb1.trans (hb2.mono hb1.size)
    clear hb1
    go_wp2_with fail
    refine (P _).out.mono ?_
    rintro e w3 ⟨a, c, rfl, ho, hb3⟩
    replace hb3 := hb2.trans (hb3.mono hb2.size)
    have HV := hid (own_vals ho.out)
    clear hb2 ho
    go_wp2_with fail
    refine (RW _).out.mono ?_
    rintro e w4 ⟨rfl, rfl⟩
    go_wp2_with fail
    refine (RS _).out.mono ?_
    rintro e w5 ⟨rfl, hb5⟩
    have HV5 := hid (HV.out.1.below hb5 (Nat.le_refl _))
    replace hb5 := hb3.trans (hb5.mono hb3.size)
    clear hb3 HV
    go_wp2_with fail
    refine (RA _).out.mono ?_
    rintro e w6 ⟨rfl, hb6⟩
    have HV6 := hid (HV5.out.below hb6 (Nat.le_refl _))
    replace hb6 := hb5.trans (hb6.mono hb5.size)
    clear hb5 HV5
    go_wp2_with fail
    refine (RP _).out.mono ?_
    rintro e w7 ⟨a2, c2, rfl, ho2, hb7⟩
    have IE := hid (ints_eq a a2 c c2 L w7 (HV6.out.below hb7 (Nat.le_refl _)) (own_vals ho2.out).1 (by omega))
    replace hb7 := hb6.trans (hb7.mono hb6.size)
    clear hb6 HV6 ho2
    go_wp2_with fail
    refine IE.out.mono ?_
    rintro e w8 ⟨rfl, hb8⟩
    replace hb8 := hb7.trans (hb8.mono hb7.size)
    clear hb7 IE
    go_wp2_with fail
    refine (awake_any _).mono ?_
    rintro e w9 ⟨rfl, hb9⟩
    go_wp2_with fail
    go_ret
    exact ⟨rfl, hb8.trans (hb9.mono hb8.size)⟩

theorem squares_walk (s0 : ByteArray) (w : World) (hs : s0.size ≤ maxLen) : Calls Try.prog 15 #[.string s0] w fun e w' => e = .returned (.bool true) ∧ Below w.heap.size w w' := by
  have hmx : maxLen ≤ 9223372036854775807 := by decide
  have SH := fun W => hid (short_any s0 W (by omega))
  have hs1 := short_size s0
  generalize s0.extract 0 (min s0.size 121) = s at SH hs1
  cases hw : wordB s.data.toList with
  | false => exact squares_no s0 s w hs1 SH hw
  | true =>
    have hov : overB 4 s.data.toList = true := by rw [wordB] at hw; simp at hw; exact hw.2
    refine squares_in s0 s (sq s.data.toList) (ab s.data.toList) (perL s.data.toList) w hs1 ?_ SH (fun W => hid (Square_word s W (by omega) hw)) (fun W => hid (Abelian_yes s W hw)) (fun W => hid (Periods_yes s W hw)) ?_ (fun W => hid (refSquare_any s W (by omega))) (fun W => hid (refAbelian_any s W (by omega) hov)) (fun W => hid (refPeriods_any s W (by omega)))
    · have := perL_len s.data.toList
      rw [bytes_len] at this; omega
    · intro W
      have := hid (refWord_any s W (by omega))
      rw [hw] at this
      exact this
end Go.Proofs.Ytancficmkkdnfaa
