/-
  The law MarksCounted, walked.
-/
import Derived.Test.YtancficmkkdnfaaO
import Derived.Test.YtancficmkkdnfaaSixty
namespace Go.Proofs.Ytancficmkkdnfaa
open Go.RowKit
attribute [local go_sem] Oper.semAt_some

theorem cnt_le (n k : Nat) (hn : n ≤ 16) (hk2 : k ≤ 3) : (frW k n []).length ≤ 100000000 := by
  refine Nat.le_trans (frW_len_le k n []) (Nat.le_trans (Nat.pow_le_pow_left hk2 n) (Nat.le_trans (Nat.pow_le_pow_right (by omega) hn) ?_))
  decide

theorem count_at (n k : Nat) (p q : Int) (hp : p = n) (hq : q = k) (w : World) (hn : n ≤ 16) (hk : 1 ≤ k) (hk2 : k ≤ 3) :
    Calls Try.prog 29 #[.int .i64 p, .int .i64 q] w fun e w' => e = .returned (.tuple #[.int .i64 (frW k n []).length, .int .i64 0]) ∧ Below w.heap.size w w' := by
  subst hp hq; exact count_yes n k w hn hk hk2

set_option maxHeartbeats 4000000 in
theorem counted_walk (x y : Int) (w : World) (hx : -9223372036854775808 ≤ x ∧ x ≤ 9223372036854775807) (hy : -9223372036854775808 ≤ y ∧ y ≤ 9223372036854775807) :
    Calls Try.prog 5 #[.int .i64 x, .int .i64 y] w fun e w' => e = .returned (.bool true) ∧ Below w.heap.size w w' := by
  have m1 := mod_any x 15 w (by omega) (by omega) hx
  have m2 := mod_any y 3 w (by omega) (by omega) hy
  have l1 := modN_lt x 15 (by omega)
  have l2 := modN_lt y 3 (by omega)
  obtain ⟨n, hn⟩ : ∃ n, n = modN x 15 := ⟨_, rfl⟩
  obtain ⟨k, hk⟩ : ∃ k, k = modN y 3 := ⟨_, rfl⟩
  rw [← hn] at m1 l1
  rw [← hk] at m2 l2
  clear hn hk
  have M1 := hid m1
  have M2 := hid m2
  clear m1 m2
  have C1 := hid (fun W => count_at (n + 1) (k + 1) (1 + (n : Int)) (1 + (k : Int)) (by omega) (by omega) W (by omega) (by omega) (by omega))
  have C2 := hid (fun W => count_at (n + 1 + 1) (k + 1) (1 + (n : Int) + 1) (1 + (k : Int)) (by omega) (by omega) W (by omega) (by omega) (by omega))
  have C3 := hid (fun W (h : k + 1 + 1 ≤ 3) => count_at (n + 1) (k + 1 + 1) (1 + (n : Int)) (1 + (k : Int) + 1) (by omega) (by omega) W (by omega) (by omega) h)
  have g1 := count_mod (n + 1) (k + 1) (by omega) (by omega) (by omega)
  have g2 := count_grows (n + 1) (k + 1) (by omega) (by omega)
  have g3 := count_more (k + 1) (n + 1) []
  have g4 := count_three (n + 1) (by omega) (by omega)
  have b1 := cnt_le (n + 1) (k + 1) (by omega) (by omega)
  have b2 := cnt_le (n + 1 + 1) (k + 1) (by omega) (by omega)
  obtain ⟨a, ha⟩ : ∃ a, a = (frW (k + 1) (n + 1) []).length := ⟨_, rfl⟩
  obtain ⟨b, hb⟩ : ∃ b, b = (frW (k + 1) (n + 1 + 1) []).length := ⟨_, rfl⟩
  obtain ⟨c, hc⟩ : ∃ c, c = (frW (k + 1 + 1) (n + 1) []).length := ⟨_, rfl⟩
  rw [← ha] at C1 g1 g2 g3 b1
  rw [← hb] at C2 g2 b2
  rw [← hc] at C3 g3
  have h3 : k + 1 = 3 → 3 ≤ a := fun h => by rw [ha, h]; exact g4
  have H3 := hid h3
  have G1 := hid g1
  have G2 := hid g2
  have G3 := hid g3
  clear ha hb hc h3 g1 g2 g3 g4
  have hmul : (a : Int) * (k : Int) ≤ 1000000000 ∧ 0 ≤ (a : Int) * (k : Int) ∧ (b : Int) ≤ (a : Int) * (k : Int) := by
    have h1 := G2.out
    rw [Nat.add_sub_cancel] at h1
    have h2 : a * k ≤ 100000000 * 2 := Nat.mul_le_mul b1 (by omega)
    have h3 : ((a * k : Nat) : Int) = (a : Int) * (k : Int) := by simp
    omega
  obtain ⟨pr, hpr⟩ : ∃ pr, pr = (a : Int) * (k : Int) := ⟨_, rfl⟩
  rw [← hpr] at hmul
  have hpw : wrap64 ((a : Int) * (1 + (k : Int) - 1)) = pr := by rw [show 1 + (k : Int) - 1 = (k : Int) by omega, ← hpr, IntWalk.wrap64_in _ (by omega)]
  have hpd : decide ((b : Int) > pr) = false := by simp; omega
  have hmd : wrap64 (Int.tmod (a : Int) (1 + (k : Int))) = 0 := by
    rw [show 1 + (k : Int) = ((k + 1 : Nat) : Int) by omega, tmod_nat, G1.out]; exact (IntWalk.wrap64_in _ (by omega)).trans rfl
  have hme : (a : Int) % (1 + (k : Int)) = 0 := by
    rw [show 1 + (k : Int) = ((k + 1 : Nat) : Int) by omega]
    have := G1.out
    exact_mod_cast this
  have hda : decide ((a : Int) < 0) = false := by simp
  have hdb : decide ((b : Int) < 0) = false := by simp
  go_enter Try.func5, Try.ntmps5
  go_wp2_with fail
  refine M1.out.mono ?_
  rintro e w1 ⟨rfl, rfl⟩
  go_wp2_with fail
  refine M2.out.mono ?_
  rintro e w1 ⟨rfl, rfl⟩
  go_wp2_with fail
  refine (C1.out _).mono ?_
  rintro e w1 ⟨rfl, hb1⟩
  go_wp2_with fail
  refine (C2.out _).mono ?_
  rintro e w2 ⟨rfl, hb2⟩
  have hb2 := hb1.trans (hb2.mono hb1.size)
  clear hb1 hpr
  by_cases hk2 : k = 2
  · have hk3 : ((1 + (k : Int)) == 3) = true := beq_iff_eq.2 (by omega)
    have ha3 : decide ((a : Int) ≥ 3) = true := by have := H3.out (by omega); simp; omega
    clear hk2
    go_wp2_with fail
    refine (awake_any _).mono ?_
    rintro e w3 ⟨rfl, hb3⟩
    go_wp2_with fail
    go_ret
    exact ⟨rfl, hb2.trans (hb3.mono hb2.size)⟩
  · have hk3 : ((1 + (k : Int)) == 3) = false := beq_eq_false_iff_ne.2 (by omega)
    have hc3 : decide ((c : Int) ≥ (a : Int)) = true := by have := G3.out; simp; omega
    have C3 := hid (C3.out w2 (by omega))
    clear hk2
    go_wp2_with fail
    refine C3.out.mono ?_
    rintro e w3 ⟨rfl, hb3⟩
    have hb3 := hb2.trans (hb3.mono hb2.size)
    go_wp2_with fail
    refine (awake_any _).mono ?_
    rintro e w4 ⟨rfl, hb4⟩
    go_wp2_with fail
    go_ret
    exact ⟨rfl, hb3.trans (hb4.mono hb3.size)⟩
end Go.Proofs.Ytancficmkkdnfaa
