/-
  Walks: fractions, exponents.
-/
import Derived.Test.YtancficmkkdnfaaD
namespace Go.Proofs.Ytancficmkkdnfaa
open Go.RowKit

def fracV (num den : Nat) : Value := .agg #[.int .i64 ((num / Nat.gcd num den : Nat) : Int), .int .i64 ((den / Nat.gcd num den : Nat) : Int)]

theorem tmod_nat (a b : Nat) : Int.tmod (a : Int) (b : Int) = ((a % b : Nat) : Int) := by
  rw [Int.tmod_eq_emod_of_nonneg (by omega)]; omega
theorem tdiv_nat (a b : Nat) : Int.tdiv (a : Int) (b : Int) = ((a / b : Nat) : Int) := by
  rw [Int.tdiv_eq_ediv_of_nonneg (by omega)]; omega

theorem wrap_nat (x : Nat) (h : x ≤ 1000000000) : wrap64 (x : Int) = (x : Int) := IntWalk.wrap64_in _ (by omega)

set_option maxHeartbeats 1000000 in
theorem frac_any (num den : Nat) (w : World) (h1 : num ≤ 100000) (h2 : den ≤ 100000) (h3 : 0 < den) :
    Calls Try.prog 55 #[.int .i64 num, .int .i64 den] w fun e w' => e = .returned (fracV num den) ∧ Below w.heap.size w w' := by
  go_enter Try.func55, Try.ntmps55
  go_wp2
  go_loopw [5, 6] (fun x y wr => ∃ a b : Nat, a ≤ 100000 ∧ b ≤ 100000 ∧ 0 < a + b ∧ x = .int .i64 a ∧ y = .int .i64 b ∧ Below w.heap.size w wr ∧ Blk wr w.heap.size #[.int .i64 0, .int .i64 0] 24 ∧ Hid (Nat.gcd a b = Nat.gcd num den)) (fun x y _ => (intOf y).toNat)
  case atStart => exact ⟨num, den, h1, h2, by omega, rfl, rfl, (Below.refl _ w).alloc (Nat.le_refl _) _, Blk.new _ _ _, rfl⟩
  case round =>
    obtain ⟨a, b, ha, hb, hab, rfl, rfl, hB, hA, HG⟩ := hrel
    by_cases h0 : 0 < b
    · have hne : ¬ (b : Int) = 0 := by omega
      have hm := tmod_nat a b
      have hlt := Nat.mod_lt a h0
      go_wp2
      go_quiet (fail)
      go_wp2
      refine ⟨⟨b, a % b, hb, by omega, by omega, rfl, rfl, below_drewN hB _, hA, ?_⟩, ?_⟩
      · rw [Hid, ← HG.out, Nat.gcd_comm a b, Nat.gcd_rec b a, Nat.gcd_comm]
      · simp [intOf]; omega
    · have hb0 : b = 0 := by omega
      subst hb0
      have hg : a = Nat.gcd num den := by rw [← HG.out, Nat.gcd_zero_right]
      have hne : ¬ (a : Int) = 0 := by omega
      have hm := tdiv_nat num a
      have hm2 := tdiv_nat den a
      have hle := Nat.div_le_self num a
      have hle2 := Nat.div_le_self den a
      have HGg := hid hg
      have r0 : wr.cell? ⟨w.heap.size, 0, none⟩ = some (.int .i64 0) := hA.cell 0
      have r1 : wr.cell? ⟨w.heap.size, 1, none⟩ = some (.int .i64 0) := hA.cell 1
      have f0 := hA.free 0
      have f1 := hA.free 1
      clear hg HG hab
      go_wp2
      go_region
      have e1 : wrap64 ((num : Int) / (a : Int)) = ((num / a : Nat) : Int) := by rw [← Int.natCast_ediv]; exact wrap_nat _ (by omega)
      have e2 : wrap64 ((den : Int) / (a : Int)) = ((den / a : Nat) : Int) := by rw [← Int.natCast_ediv]; exact wrap_nat _ (by omega)
      go_wp2
      simp only [e1, e2]
      refine bodyPost_ret (v := .agg #[.int .i64 ((num / a : Nat) : Int), .int .i64 ((den / a : Nat) : Int)]) (by simp [results, Try.results55, go_sem, r0, r1]) rfl ⟨?_, ?_⟩
      · rw [fracV, ← HGg.out]
      · exact ((hB.setCell (Nat.le_refl _) _).setCell (Nat.le_refl _) _).drew
set_option maxHeartbeats 1000000 in
theorem Reduced_any (num den : Nat) (w : World) (h1 : num ≤ 100000) (h2 : den ≤ 100000) (h3 : 0 < den) :
    Calls Try.prog 24 #[.int .i64 num, .int .i64 den] w fun e w' => e = .returned (fracV num den) ∧ Below w.heap.size w w' := by
  go_enter Try.func24, Try.ntmps24
  go_wp2
  go_loopw [5, 6] (fun x y wr => ∃ a b : Nat, a ≤ 100000 ∧ b ≤ 100000 ∧ 0 < a + b ∧ x = .int .i64 a ∧ y = .int .i64 b ∧ Below w.heap.size w wr ∧ Blk wr w.heap.size #[.int .i64 0, .int .i64 0] 24 ∧ Hid (Nat.gcd a b = Nat.gcd num den)) (fun x y _ => (intOf y).toNat)
  case atStart => exact ⟨num, den, h1, h2, by omega, rfl, rfl, (Below.refl _ w).alloc (Nat.le_refl _) _, Blk.new _ _ _, rfl⟩
  case round =>
    obtain ⟨a, b, ha, hb, hab, rfl, rfl, hB, hA, HG⟩ := hrel
    by_cases h0 : 0 < b
    · have hne : ¬ (b : Int) = 0 := by omega
      have hm := tmod_nat a b
      have hlt := Nat.mod_lt a h0
      go_wp2
      refine ⟨⟨b, a % b, hb, by omega, by omega, rfl, rfl, hB, hA, ?_⟩, ?_⟩
      · rw [Hid, ← HG.out, Nat.gcd_comm a b, Nat.gcd_rec b a, Nat.gcd_comm]
      · simp [intOf]; omega
    · have hb0 : b = 0 := by omega
      subst hb0
      have hg : a = Nat.gcd num den := by rw [← HG.out, Nat.gcd_zero_right]
      have hne : ¬ (a : Int) = 0 := by omega
      have hm := tdiv_nat num a
      have hm2 := tdiv_nat den a
      have hle := Nat.div_le_self num a
      have hle2 := Nat.div_le_self den a
      have HGg := hid hg
      have r0 : wr.cell? ⟨w.heap.size, 0, none⟩ = some (.int .i64 0) := hA.cell 0
      have r1 : wr.cell? ⟨w.heap.size, 1, none⟩ = some (.int .i64 0) := hA.cell 1
      have f0 := hA.free 0
      have f1 := hA.free 1
      clear hg HG hab
      go_wp2
      go_region
      have e1 : wrap64 ((num : Int) / (a : Int)) = ((num / a : Nat) : Int) := by rw [← Int.natCast_ediv]; exact wrap_nat _ (by omega)
      have e2 : wrap64 ((den : Int) / (a : Int)) = ((den / a : Nat) : Int) := by rw [← Int.natCast_ediv]; exact wrap_nat _ (by omega)
      go_wp2
      simp only [e1, e2]
      refine bodyPost_ret (v := .agg #[.int .i64 ((num / a : Nat) : Int), .int .i64 ((den / a : Nat) : Int)]) (by simp [results, Try.results24, go_sem, r0, r1]) rfl ⟨?_, ?_⟩
      · rw [fracV, ← HGg.out]
      · exact ((hB.setCell (Nat.le_refl _) _).setCell (Nat.le_refl _) _).drew
end Go.Proofs.Ytancficmkkdnfaa
