/-
  The law MarksCounts, walked.
-/
import Derived.Test.YtancficmkkdnfaaLawCounted
import Derived.Test.YtancficmkkdnfaaK
namespace Go.Proofs.Ytancficmkkdnfaa
open Go.RowKit
attribute [local go_sem] Oper.semAt_some

theorem mkS_nil_beq : (mkS ([] : List UInt8)) = (⟨#[]⟩ : ByteArray) := rfl
theorem bytes_self (l : List UInt8) : (((mkS l).toList == (mkS l).toList)) = true := by simp

theorem neg_c (n k : Int) (h : ¬ (0 ≤ n ∧ n ≤ 16 ∧ 1 ≤ k ∧ k ≤ 3)) (w : World) : Hid (Calls Try.prog 29 #[.int .i64 n, .int .i64 k] w fun e w' => e = .returned (.tuple #[.int .i64 0, .int .i64 2]) ∧ Below w.heap.size w w') := count_no n k w h
theorem neg_f (n k : Int) (h : ¬ (0 ≤ n ∧ n ≤ 60 ∧ 1 ≤ k ∧ k ≤ 4)) (w : World) : Hid (Calls Try.prog 40 #[.int .i64 n, .int .i64 k] w fun e w' => e = .returned (.tuple #[.string ⟨#[]⟩, .int .i64 2]) ∧ Below w.heap.size w w') := first_no n k w h
/-- First, where there is a word, and where there is none. -/
def valFi (o : Option (List UInt8)) : Value := match o with | some x => .tuple #[.string (mkS x), .int .i64 0] | none => .tuple #[.string ⟨#[]⟩, .int .i64 6]
theorem pos_f (n k : Int) (n' k' : Nat) (hn : n = n') (hk : k = k') (h1 : n' ≤ 60) (h2 : 1 ≤ k') (h3 : k' ≤ 4) (o : Option (List UInt8)) (ho : o = (frW k' n' []).head?) (w : World) : Hid (Calls Try.prog 40 #[.int .i64 n, .int .i64 k] w fun e w' => e = .returned (valFi o) ∧ Below w.heap.size w w') := by
  subst hn hk ho
  exact first_yes n' k' w h1 h2 h3
theorem pos_rf (n k : Int) (n' k' : Nat) (hn : n = n') (hk : k = k') (h1 : n' ≤ 60) (h3 : k' ≤ 4) (o : Option (List UInt8)) (ho : o = (frW k' n' []).head?) (w : World) : Hid (Calls Try.prog 42 #[.string ⟨#[]⟩, .int .i64 n, .int .i64 k] w fun e w' => e = .returned (valF o) ∧ Below w.heap.size w w') := by
  subst hn hk ho
  exact refFirst_any n' k' (by omega) h3 n' [] w (by simp)

set_option maxHeartbeats 4000000 in
theorem counts_aa (n k : Int) (w : World) (hn : n < 0) (hk : k < 1) : Calls Try.prog 8 #[.int .i64 n, .int .i64 k] w fun e w' => e = .returned (.bool true) ∧ Below w.heap.size w w' := by
  have d0 : decide (n < 0) = true := decide_eq_true (by omega)
  have d1 : decide (n > 16) = false := decide_eq_false (by omega)
  have d2 : decide (n > 60) = false := decide_eq_false (by omega)
  have d3 : decide (k < 1) = true := decide_eq_true (by omega)
  have d4 : decide (k > 3) = false := decide_eq_false (by omega)
  have d5 : decide (k > 4) = false := decide_eq_false (by omega)
  have F := fun W => neg_f n k (by omega) W
  have C := fun W => neg_c n k (by omega) W
  clear hn hk
  go_enter Try.func8, Try.ntmps8
  go_wp2_with fail
  refine ((C _).out).mono ?_
  rintro e w1 ⟨rfl, hb1⟩
  go_wp2_with fail
  refine ((F _).out).mono ?_
  rintro e w2 ⟨rfl, hb2⟩
  have hb2 := hb1.trans (hb2.mono hb1.size)
  clear hb1
  go_wp2_with fail
  refine (awake_any _).mono ?_
  rintro e w9 ⟨rfl, hb9⟩
  go_wp2_with fail
  go_ret
  exact ⟨rfl, hb2.trans (hb9.mono hb2.size)⟩

set_option maxHeartbeats 4000000 in
theorem counts_ab (n k : Int) (w : World) (hn : n < 0) (hk : 1 ≤ k ∧ k ≤ 3) : Calls Try.prog 8 #[.int .i64 n, .int .i64 k] w fun e w' => e = .returned (.bool true) ∧ Below w.heap.size w w' := by
  have d0 : decide (n < 0) = true := decide_eq_true (by omega)
  have d1 : decide (n > 16) = false := decide_eq_false (by omega)
  have d2 : decide (n > 60) = false := decide_eq_false (by omega)
  have d3 : decide (k < 1) = false := decide_eq_false (by omega)
  have d4 : decide (k > 3) = false := decide_eq_false (by omega)
  have d5 : decide (k > 4) = false := decide_eq_false (by omega)
  have F := fun W => neg_f n k (by omega) W
  have C := fun W => neg_c n k (by omega) W
  clear hn hk
  go_enter Try.func8, Try.ntmps8
  go_wp2_with fail
  refine ((C _).out).mono ?_
  rintro e w1 ⟨rfl, hb1⟩
  go_wp2_with fail
  refine ((F _).out).mono ?_
  rintro e w2 ⟨rfl, hb2⟩
  have hb2 := hb1.trans (hb2.mono hb1.size)
  clear hb1
  go_wp2_with fail
  refine (awake_any _).mono ?_
  rintro e w9 ⟨rfl, hb9⟩
  go_wp2_with fail
  go_ret
  exact ⟨rfl, hb2.trans (hb9.mono hb2.size)⟩

set_option maxHeartbeats 4000000 in
theorem counts_ac (n k : Int) (w : World) (hn : n < 0) (hk : k = 4) : Calls Try.prog 8 #[.int .i64 n, .int .i64 k] w fun e w' => e = .returned (.bool true) ∧ Below w.heap.size w w' := by
  have d0 : decide (n < 0) = true := decide_eq_true (by omega)
  have d1 : decide (n > 16) = false := decide_eq_false (by omega)
  have d2 : decide (n > 60) = false := decide_eq_false (by omega)
  have d3 : decide (k < 1) = false := decide_eq_false (by omega)
  have d4 : decide (k > 3) = true := decide_eq_true (by omega)
  have d5 : decide (k > 4) = false := decide_eq_false (by omega)
  have F := fun W => neg_f n k (by omega) W
  have C := fun W => neg_c n k (by omega) W
  clear hn hk
  go_enter Try.func8, Try.ntmps8
  go_wp2_with fail
  refine ((C _).out).mono ?_
  rintro e w1 ⟨rfl, hb1⟩
  go_wp2_with fail
  refine ((F _).out).mono ?_
  rintro e w2 ⟨rfl, hb2⟩
  have hb2 := hb1.trans (hb2.mono hb1.size)
  clear hb1
  go_wp2_with fail
  refine (awake_any _).mono ?_
  rintro e w9 ⟨rfl, hb9⟩
  go_wp2_with fail
  go_ret
  exact ⟨rfl, hb2.trans (hb9.mono hb2.size)⟩

set_option maxHeartbeats 4000000 in
theorem counts_ad (n k : Int) (w : World) (hn : n < 0) (hk : 4 < k) : Calls Try.prog 8 #[.int .i64 n, .int .i64 k] w fun e w' => e = .returned (.bool true) ∧ Below w.heap.size w w' := by
  have d0 : decide (n < 0) = true := decide_eq_true (by omega)
  have d1 : decide (n > 16) = false := decide_eq_false (by omega)
  have d2 : decide (n > 60) = false := decide_eq_false (by omega)
  have d3 : decide (k < 1) = false := decide_eq_false (by omega)
  have d4 : decide (k > 3) = true := decide_eq_true (by omega)
  have d5 : decide (k > 4) = true := decide_eq_true (by omega)
  have F := fun W => neg_f n k (by omega) W
  have C := fun W => neg_c n k (by omega) W
  clear hn hk
  go_enter Try.func8, Try.ntmps8
  go_wp2_with fail
  refine ((C _).out).mono ?_
  rintro e w1 ⟨rfl, hb1⟩
  go_wp2_with fail
  refine ((F _).out).mono ?_
  rintro e w2 ⟨rfl, hb2⟩
  have hb2 := hb1.trans (hb2.mono hb1.size)
  clear hb1
  go_wp2_with fail
  refine (awake_any _).mono ?_
  rintro e w9 ⟨rfl, hb9⟩
  go_wp2_with fail
  go_ret
  exact ⟨rfl, hb2.trans (hb9.mono hb2.size)⟩

set_option maxHeartbeats 4000000 in
theorem counts_ba (n k : Int) (w : World) (hn : 0 ≤ n ∧ n ≤ 16) (hk : k < 1) : Calls Try.prog 8 #[.int .i64 n, .int .i64 k] w fun e w' => e = .returned (.bool true) ∧ Below w.heap.size w w' := by
  have d0 : decide (n < 0) = false := decide_eq_false (by omega)
  have d1 : decide (n > 16) = false := decide_eq_false (by omega)
  have d2 : decide (n > 60) = false := decide_eq_false (by omega)
  have d3 : decide (k < 1) = true := decide_eq_true (by omega)
  have d4 : decide (k > 3) = false := decide_eq_false (by omega)
  have d5 : decide (k > 4) = false := decide_eq_false (by omega)
  have F := fun W => neg_f n k (by omega) W
  have C := fun W => neg_c n k (by omega) W
  clear hn hk
  go_enter Try.func8, Try.ntmps8
  go_wp2_with fail
  refine ((C _).out).mono ?_
  rintro e w1 ⟨rfl, hb1⟩
  go_wp2_with fail
  refine ((F _).out).mono ?_
  rintro e w2 ⟨rfl, hb2⟩
  have hb2 := hb1.trans (hb2.mono hb1.size)
  clear hb1
  go_wp2_with fail
  refine (awake_any _).mono ?_
  rintro e w9 ⟨rfl, hb9⟩
  go_wp2_with fail
  go_ret
  exact ⟨rfl, hb2.trans (hb9.mono hb2.size)⟩

set_option maxHeartbeats 4000000 in
theorem counts_bb (n k : Int) (w : World) (hn : 0 ≤ n ∧ n ≤ 16) (hk : 1 ≤ k ∧ k ≤ 3) : Calls Try.prog 8 #[.int .i64 n, .int .i64 k] w fun e w' => e = .returned (.bool true) ∧ Below w.heap.size w w' := by
  have d0 : decide (n < 0) = false := decide_eq_false (by omega)
  have d1 : decide (n > 16) = false := decide_eq_false (by omega)
  have d2 : decide (n > 60) = false := decide_eq_false (by omega)
  have d3 : decide (k < 1) = false := decide_eq_false (by omega)
  have d4 : decide (k > 3) = false := decide_eq_false (by omega)
  have d5 : decide (k > 4) = false := decide_eq_false (by omega)
  obtain ⟨o, ho⟩ : ∃ o, o = (frW k.toNat n.toNat []).head? := ⟨_, rfl⟩
  have F := fun W => pos_f n k n.toNat k.toNat (by omega) (by omega) (by omega) (by omega) (by omega) o ho W
  have RF := fun W => pos_rf n k n.toNat k.toNat (by omega) (by omega) (by omega) (by omega) o ho W
  clear ho
  have hb := cnt_le n.toNat k.toNat (by omega) (by omega)
  have C := fun W => hid (count_at n.toNat k.toNat n k (by omega) (by omega) W (by omega) (by omega) (by omega))
  have RC := fun W => hid (refCount_any n.toNat k.toNat (by omega) (by omega) n.toNat [] W (by simp) (by omega))
  rw [show ((n.toNat : Nat) : Int) = n by omega, show ((k.toNat : Nat) : Int) = k by omega, mkS_nil_beq] at RC
  obtain ⟨c, hc⟩ : ∃ c, c = (frW k.toNat n.toNat []).length := ⟨_, rfl⟩
  rw [← hc] at C RC hb
  have hcc : ((c : Int) != (c : Int)) = false := by simp
  clear hc
  clear hn hk
  go_enter Try.func8, Try.ntmps8
  go_wp2_with fail
  refine ((C _).out).mono ?_
  rintro e w1 ⟨rfl, hb1⟩
  go_wp2_with fail
  refine ((F _).out).mono ?_
  rintro e w2 ⟨rfl, hb2⟩
  have hb2 := hb1.trans (hb2.mono hb1.size)
  clear hb1
  cases o with
  | none =>
    simp only [valFi, valF] at RF ⊢
    go_wp2_with fail
    refine ((RC _).out).mono ?_
    rintro e w3 ⟨rfl, hb3⟩
    have hb2 := hb2.trans (hb3.mono hb2.size)
    go_wp2_with fail
    refine ((RF _).out).mono ?_
    rintro e w4 ⟨rfl, hb4⟩
    have hb2 := hb2.trans (hb4.mono hb2.size)
    go_wp2_with fail
    refine (awake_any _).mono ?_
    rintro e w9 ⟨rfl, hb9⟩
    go_wp2_with fail
    go_ret
    exact ⟨rfl, hb2.trans (hb9.mono hb2.size)⟩
  | some x =>
    simp only [valFi, valF] at RF ⊢
    have hxx := bytes_self x
    go_wp2_with fail
    refine ((RC _).out).mono ?_
    rintro e w3 ⟨rfl, hb3⟩
    have hb2 := hb2.trans (hb3.mono hb2.size)
    go_wp2_with fail
    refine ((RF _).out).mono ?_
    rintro e w4 ⟨rfl, hb4⟩
    have hb2 := hb2.trans (hb4.mono hb2.size)
    go_wp2_with fail
    refine (awake_any _).mono ?_
    rintro e w9 ⟨rfl, hb9⟩
    go_wp2_with fail
    go_ret
    exact ⟨rfl, hb2.trans (hb9.mono hb2.size)⟩

set_option maxHeartbeats 4000000 in
theorem counts_bc (n k : Int) (w : World) (hn : 0 ≤ n ∧ n ≤ 16) (hk : k = 4) : Calls Try.prog 8 #[.int .i64 n, .int .i64 k] w fun e w' => e = .returned (.bool true) ∧ Below w.heap.size w w' := by
  have d0 : decide (n < 0) = false := decide_eq_false (by omega)
  have d1 : decide (n > 16) = false := decide_eq_false (by omega)
  have d2 : decide (n > 60) = false := decide_eq_false (by omega)
  have d3 : decide (k < 1) = false := decide_eq_false (by omega)
  have d4 : decide (k > 3) = true := decide_eq_true (by omega)
  have d5 : decide (k > 4) = false := decide_eq_false (by omega)
  obtain ⟨o, ho⟩ : ∃ o, o = (frW k.toNat n.toNat []).head? := ⟨_, rfl⟩
  have F := fun W => pos_f n k n.toNat k.toNat (by omega) (by omega) (by omega) (by omega) (by omega) o ho W
  have RF := fun W => pos_rf n k n.toNat k.toNat (by omega) (by omega) (by omega) (by omega) o ho W
  clear ho
  have C := fun W => neg_c n k (by omega) W
  clear hn hk
  go_enter Try.func8, Try.ntmps8
  go_wp2_with fail
  refine ((C _).out).mono ?_
  rintro e w1 ⟨rfl, hb1⟩
  go_wp2_with fail
  refine ((F _).out).mono ?_
  rintro e w2 ⟨rfl, hb2⟩
  have hb2 := hb1.trans (hb2.mono hb1.size)
  clear hb1
  cases o with
  | none =>
    simp only [valFi, valF] at RF ⊢
    go_wp2_with fail
    refine ((RF _).out).mono ?_
    rintro e w4 ⟨rfl, hb4⟩
    have hb2 := hb2.trans (hb4.mono hb2.size)
    go_wp2_with fail
    refine (awake_any _).mono ?_
    rintro e w9 ⟨rfl, hb9⟩
    go_wp2_with fail
    go_ret
    exact ⟨rfl, hb2.trans (hb9.mono hb2.size)⟩
  | some x =>
    simp only [valFi, valF] at RF ⊢
    have hxx := bytes_self x
    go_wp2_with fail
    refine ((RF _).out).mono ?_
    rintro e w4 ⟨rfl, hb4⟩
    have hb2 := hb2.trans (hb4.mono hb2.size)
    go_wp2_with fail
    refine (awake_any _).mono ?_
    rintro e w9 ⟨rfl, hb9⟩
    go_wp2_with fail
    go_ret
    exact ⟨rfl, hb2.trans (hb9.mono hb2.size)⟩

set_option maxHeartbeats 4000000 in
theorem counts_bd (n k : Int) (w : World) (hn : 0 ≤ n ∧ n ≤ 16) (hk : 4 < k) : Calls Try.prog 8 #[.int .i64 n, .int .i64 k] w fun e w' => e = .returned (.bool true) ∧ Below w.heap.size w w' := by
  have d0 : decide (n < 0) = false := decide_eq_false (by omega)
  have d1 : decide (n > 16) = false := decide_eq_false (by omega)
  have d2 : decide (n > 60) = false := decide_eq_false (by omega)
  have d3 : decide (k < 1) = false := decide_eq_false (by omega)
  have d4 : decide (k > 3) = true := decide_eq_true (by omega)
  have d5 : decide (k > 4) = true := decide_eq_true (by omega)
  have F := fun W => neg_f n k (by omega) W
  have C := fun W => neg_c n k (by omega) W
  clear hn hk
  go_enter Try.func8, Try.ntmps8
  go_wp2_with fail
  refine ((C _).out).mono ?_
  rintro e w1 ⟨rfl, hb1⟩
  go_wp2_with fail
  refine ((F _).out).mono ?_
  rintro e w2 ⟨rfl, hb2⟩
  have hb2 := hb1.trans (hb2.mono hb1.size)
  clear hb1
  go_wp2_with fail
  refine (awake_any _).mono ?_
  rintro e w9 ⟨rfl, hb9⟩
  go_wp2_with fail
  go_ret
  exact ⟨rfl, hb2.trans (hb9.mono hb2.size)⟩

set_option maxHeartbeats 4000000 in
theorem counts_ca (n k : Int) (w : World) (hn : 16 < n ∧ n ≤ 60) (hk : k < 1) : Calls Try.prog 8 #[.int .i64 n, .int .i64 k] w fun e w' => e = .returned (.bool true) ∧ Below w.heap.size w w' := by
  have d0 : decide (n < 0) = false := decide_eq_false (by omega)
  have d1 : decide (n > 16) = true := decide_eq_true (by omega)
  have d2 : decide (n > 60) = false := decide_eq_false (by omega)
  have d3 : decide (k < 1) = true := decide_eq_true (by omega)
  have d4 : decide (k > 3) = false := decide_eq_false (by omega)
  have d5 : decide (k > 4) = false := decide_eq_false (by omega)
  have F := fun W => neg_f n k (by omega) W
  have C := fun W => neg_c n k (by omega) W
  clear hn hk
  go_enter Try.func8, Try.ntmps8
  go_wp2_with fail
  refine ((C _).out).mono ?_
  rintro e w1 ⟨rfl, hb1⟩
  go_wp2_with fail
  refine ((F _).out).mono ?_
  rintro e w2 ⟨rfl, hb2⟩
  have hb2 := hb1.trans (hb2.mono hb1.size)
  clear hb1
  go_wp2_with fail
  refine (awake_any _).mono ?_
  rintro e w9 ⟨rfl, hb9⟩
  go_wp2_with fail
  go_ret
  exact ⟨rfl, hb2.trans (hb9.mono hb2.size)⟩

set_option maxHeartbeats 4000000 in
theorem counts_cb (n k : Int) (w : World) (hn : 16 < n ∧ n ≤ 60) (hk : 1 ≤ k ∧ k ≤ 3) : Calls Try.prog 8 #[.int .i64 n, .int .i64 k] w fun e w' => e = .returned (.bool true) ∧ Below w.heap.size w w' := by
  have d0 : decide (n < 0) = false := decide_eq_false (by omega)
  have d1 : decide (n > 16) = true := decide_eq_true (by omega)
  have d2 : decide (n > 60) = false := decide_eq_false (by omega)
  have d3 : decide (k < 1) = false := decide_eq_false (by omega)
  have d4 : decide (k > 3) = false := decide_eq_false (by omega)
  have d5 : decide (k > 4) = false := decide_eq_false (by omega)
  obtain ⟨o, ho⟩ : ∃ o, o = (frW k.toNat n.toNat []).head? := ⟨_, rfl⟩
  have F := fun W => pos_f n k n.toNat k.toNat (by omega) (by omega) (by omega) (by omega) (by omega) o ho W
  have RF := fun W => pos_rf n k n.toNat k.toNat (by omega) (by omega) (by omega) (by omega) o ho W
  clear ho
  have C := fun W => neg_c n k (by omega) W
  clear hn hk
  go_enter Try.func8, Try.ntmps8
  go_wp2_with fail
  refine ((C _).out).mono ?_
  rintro e w1 ⟨rfl, hb1⟩
  go_wp2_with fail
  refine ((F _).out).mono ?_
  rintro e w2 ⟨rfl, hb2⟩
  have hb2 := hb1.trans (hb2.mono hb1.size)
  clear hb1
  cases o with
  | none =>
    simp only [valFi, valF] at RF ⊢
    go_wp2_with fail
    refine ((RF _).out).mono ?_
    rintro e w4 ⟨rfl, hb4⟩
    have hb2 := hb2.trans (hb4.mono hb2.size)
    go_wp2_with fail
    refine (awake_any _).mono ?_
    rintro e w9 ⟨rfl, hb9⟩
    go_wp2_with fail
    go_ret
    exact ⟨rfl, hb2.trans (hb9.mono hb2.size)⟩
  | some x =>
    simp only [valFi, valF] at RF ⊢
    have hxx := bytes_self x
    go_wp2_with fail
    refine ((RF _).out).mono ?_
    rintro e w4 ⟨rfl, hb4⟩
    have hb2 := hb2.trans (hb4.mono hb2.size)
    go_wp2_with fail
    refine (awake_any _).mono ?_
    rintro e w9 ⟨rfl, hb9⟩
    go_wp2_with fail
    go_ret
    exact ⟨rfl, hb2.trans (hb9.mono hb2.size)⟩

set_option maxHeartbeats 4000000 in
theorem counts_cc (n k : Int) (w : World) (hn : 16 < n ∧ n ≤ 60) (hk : k = 4) : Calls Try.prog 8 #[.int .i64 n, .int .i64 k] w fun e w' => e = .returned (.bool true) ∧ Below w.heap.size w w' := by
  have d0 : decide (n < 0) = false := decide_eq_false (by omega)
  have d1 : decide (n > 16) = true := decide_eq_true (by omega)
  have d2 : decide (n > 60) = false := decide_eq_false (by omega)
  have d3 : decide (k < 1) = false := decide_eq_false (by omega)
  have d4 : decide (k > 3) = true := decide_eq_true (by omega)
  have d5 : decide (k > 4) = false := decide_eq_false (by omega)
  obtain ⟨o, ho⟩ : ∃ o, o = (frW k.toNat n.toNat []).head? := ⟨_, rfl⟩
  have F := fun W => pos_f n k n.toNat k.toNat (by omega) (by omega) (by omega) (by omega) (by omega) o ho W
  have RF := fun W => pos_rf n k n.toNat k.toNat (by omega) (by omega) (by omega) (by omega) o ho W
  clear ho
  have C := fun W => neg_c n k (by omega) W
  clear hn hk
  go_enter Try.func8, Try.ntmps8
  go_wp2_with fail
  refine ((C _).out).mono ?_
  rintro e w1 ⟨rfl, hb1⟩
  go_wp2_with fail
  refine ((F _).out).mono ?_
  rintro e w2 ⟨rfl, hb2⟩
  have hb2 := hb1.trans (hb2.mono hb1.size)
  clear hb1
  cases o with
  | none =>
    simp only [valFi, valF] at RF ⊢
    go_wp2_with fail
    refine ((RF _).out).mono ?_
    rintro e w4 ⟨rfl, hb4⟩
    have hb2 := hb2.trans (hb4.mono hb2.size)
    go_wp2_with fail
    refine (awake_any _).mono ?_
    rintro e w9 ⟨rfl, hb9⟩
    go_wp2_with fail
    go_ret
    exact ⟨rfl, hb2.trans (hb9.mono hb2.size)⟩
  | some x =>
    simp only [valFi, valF] at RF ⊢
    have hxx := bytes_self x
    go_wp2_with fail
    refine ((RF _).out).mono ?_
    rintro e w4 ⟨rfl, hb4⟩
    have hb2 := hb2.trans (hb4.mono hb2.size)
    go_wp2_with fail
    refine (awake_any _).mono ?_
    rintro e w9 ⟨rfl, hb9⟩
    go_wp2_with fail
    go_ret
    exact ⟨rfl, hb2.trans (hb9.mono hb2.size)⟩

set_option maxHeartbeats 4000000 in
theorem counts_cd (n k : Int) (w : World) (hn : 16 < n ∧ n ≤ 60) (hk : 4 < k) : Calls Try.prog 8 #[.int .i64 n, .int .i64 k] w fun e w' => e = .returned (.bool true) ∧ Below w.heap.size w w' := by
  have d0 : decide (n < 0) = false := decide_eq_false (by omega)
  have d1 : decide (n > 16) = true := decide_eq_true (by omega)
  have d2 : decide (n > 60) = false := decide_eq_false (by omega)
  have d3 : decide (k < 1) = false := decide_eq_false (by omega)
  have d4 : decide (k > 3) = true := decide_eq_true (by omega)
  have d5 : decide (k > 4) = true := decide_eq_true (by omega)
  have F := fun W => neg_f n k (by omega) W
  have C := fun W => neg_c n k (by omega) W
  clear hn hk
  go_enter Try.func8, Try.ntmps8
  go_wp2_with fail
  refine ((C _).out).mono ?_
  rintro e w1 ⟨rfl, hb1⟩
  go_wp2_with fail
  refine ((F _).out).mono ?_
  rintro e w2 ⟨rfl, hb2⟩
  have hb2 := hb1.trans (hb2.mono hb1.size)
  clear hb1
  go_wp2_with fail
  refine (awake_any _).mono ?_
  rintro e w9 ⟨rfl, hb9⟩
  go_wp2_with fail
  go_ret
  exact ⟨rfl, hb2.trans (hb9.mono hb2.size)⟩

set_option maxHeartbeats 4000000 in
theorem counts_da (n k : Int) (w : World) (hn : 60 < n) (hk : k < 1) : Calls Try.prog 8 #[.int .i64 n, .int .i64 k] w fun e w' => e = .returned (.bool true) ∧ Below w.heap.size w w' := by
  have d0 : decide (n < 0) = false := decide_eq_false (by omega)
  have d1 : decide (n > 16) = true := decide_eq_true (by omega)
  have d2 : decide (n > 60) = true := decide_eq_true (by omega)
  have d3 : decide (k < 1) = true := decide_eq_true (by omega)
  have d4 : decide (k > 3) = false := decide_eq_false (by omega)
  have d5 : decide (k > 4) = false := decide_eq_false (by omega)
  have F := fun W => neg_f n k (by omega) W
  have C := fun W => neg_c n k (by omega) W
  clear hn hk
  go_enter Try.func8, Try.ntmps8
  go_wp2_with fail
  refine ((C _).out).mono ?_
  rintro e w1 ⟨rfl, hb1⟩
  go_wp2_with fail
  refine ((F _).out).mono ?_
  rintro e w2 ⟨rfl, hb2⟩
  have hb2 := hb1.trans (hb2.mono hb1.size)
  clear hb1
  go_wp2_with fail
  refine (awake_any _).mono ?_
  rintro e w9 ⟨rfl, hb9⟩
  go_wp2_with fail
  go_ret
  exact ⟨rfl, hb2.trans (hb9.mono hb2.size)⟩

set_option maxHeartbeats 4000000 in
theorem counts_db (n k : Int) (w : World) (hn : 60 < n) (hk : 1 ≤ k ∧ k ≤ 3) : Calls Try.prog 8 #[.int .i64 n, .int .i64 k] w fun e w' => e = .returned (.bool true) ∧ Below w.heap.size w w' := by
  have d0 : decide (n < 0) = false := decide_eq_false (by omega)
  have d1 : decide (n > 16) = true := decide_eq_true (by omega)
  have d2 : decide (n > 60) = true := decide_eq_true (by omega)
  have d3 : decide (k < 1) = false := decide_eq_false (by omega)
  have d4 : decide (k > 3) = false := decide_eq_false (by omega)
  have d5 : decide (k > 4) = false := decide_eq_false (by omega)
  have F := fun W => neg_f n k (by omega) W
  have C := fun W => neg_c n k (by omega) W
  clear hn hk
  go_enter Try.func8, Try.ntmps8
  go_wp2_with fail
  refine ((C _).out).mono ?_
  rintro e w1 ⟨rfl, hb1⟩
  go_wp2_with fail
  refine ((F _).out).mono ?_
  rintro e w2 ⟨rfl, hb2⟩
  have hb2 := hb1.trans (hb2.mono hb1.size)
  clear hb1
  go_wp2_with fail
  refine (awake_any _).mono ?_
  rintro e w9 ⟨rfl, hb9⟩
  go_wp2_with fail
  go_ret
  exact ⟨rfl, hb2.trans (hb9.mono hb2.size)⟩

set_option maxHeartbeats 4000000 in
theorem counts_dc (n k : Int) (w : World) (hn : 60 < n) (hk : k = 4) : Calls Try.prog 8 #[.int .i64 n, .int .i64 k] w fun e w' => e = .returned (.bool true) ∧ Below w.heap.size w w' := by
  have d0 : decide (n < 0) = false := decide_eq_false (by omega)
  have d1 : decide (n > 16) = true := decide_eq_true (by omega)
  have d2 : decide (n > 60) = true := decide_eq_true (by omega)
  have d3 : decide (k < 1) = false := decide_eq_false (by omega)
  have d4 : decide (k > 3) = true := decide_eq_true (by omega)
  have d5 : decide (k > 4) = false := decide_eq_false (by omega)
  have F := fun W => neg_f n k (by omega) W
  have C := fun W => neg_c n k (by omega) W
  clear hn hk
  go_enter Try.func8, Try.ntmps8
  go_wp2_with fail
  refine ((C _).out).mono ?_
  rintro e w1 ⟨rfl, hb1⟩
  go_wp2_with fail
  refine ((F _).out).mono ?_
  rintro e w2 ⟨rfl, hb2⟩
  have hb2 := hb1.trans (hb2.mono hb1.size)
  clear hb1
  go_wp2_with fail
  refine (awake_any _).mono ?_
  rintro e w9 ⟨rfl, hb9⟩
  go_wp2_with fail
  go_ret
  exact ⟨rfl, hb2.trans (hb9.mono hb2.size)⟩

set_option maxHeartbeats 4000000 in
theorem counts_dd (n k : Int) (w : World) (hn : 60 < n) (hk : 4 < k) : Calls Try.prog 8 #[.int .i64 n, .int .i64 k] w fun e w' => e = .returned (.bool true) ∧ Below w.heap.size w w' := by
  have d0 : decide (n < 0) = false := decide_eq_false (by omega)
  have d1 : decide (n > 16) = true := decide_eq_true (by omega)
  have d2 : decide (n > 60) = true := decide_eq_true (by omega)
  have d3 : decide (k < 1) = false := decide_eq_false (by omega)
  have d4 : decide (k > 3) = true := decide_eq_true (by omega)
  have d5 : decide (k > 4) = true := decide_eq_true (by omega)
  have F := fun W => neg_f n k (by omega) W
  have C := fun W => neg_c n k (by omega) W
  clear hn hk
  go_enter Try.func8, Try.ntmps8
  go_wp2_with fail
  refine ((C _).out).mono ?_
  rintro e w1 ⟨rfl, hb1⟩
  go_wp2_with fail
  refine ((F _).out).mono ?_
  rintro e w2 ⟨rfl, hb2⟩
  have hb2 := hb1.trans (hb2.mono hb1.size)
  clear hb1
  go_wp2_with fail
  refine (awake_any _).mono ?_
  rintro e w9 ⟨rfl, hb9⟩
  go_wp2_with fail
  go_ret
  exact ⟨rfl, hb2.trans (hb9.mono hb2.size)⟩

theorem counts_walk (n k : Int) (w : World) (_hx : -9223372036854775808 ≤ n ∧ n ≤ 9223372036854775807) (_hy : -9223372036854775808 ≤ k ∧ k ≤ 9223372036854775807) :
    Calls Try.prog 8 #[.int .i64 n, .int .i64 k] w fun e w' => e = .returned (.bool true) ∧ Below w.heap.size w w' := by
  have hn : n < 0 ∨ (0 ≤ n ∧ n ≤ 16) ∨ (16 < n ∧ n ≤ 60) ∨ 60 < n := by omega
  have hk : k < 1 ∨ (1 ≤ k ∧ k ≤ 3) ∨ k = 4 ∨ 4 < k := by omega
  rcases hn with hn | hn | hn | hn <;> rcases hk with hk | hk | hk | hk
  · exact counts_aa n k w hn hk
  · exact counts_ab n k w hn hk
  · exact counts_ac n k w hn hk
  · exact counts_ad n k w hn hk
  · exact counts_ba n k w hn hk
  · exact counts_bb n k w hn hk
  · exact counts_bc n k w hn hk
  · exact counts_bd n k w hn hk
  · exact counts_ca n k w hn hk
  · exact counts_cb n k w hn hk
  · exact counts_cc n k w hn hk
  · exact counts_cd n k w hn hk
  · exact counts_da n k w hn hk
  · exact counts_db n k w hn hk
  · exact counts_dc n k w hn hk
  · exact counts_dd n k w hn hk
end Go.Proofs.Ytancficmkkdnfaa
