/-
  Squares, abelian squares and the greatest exponent: plain laws.
-/
import Derived.Test.YtancficmkkdnfaaAbel
import Derived.Test.YtancficmkkdnfaaFree
import Derived.Test.YtancficmkkdnfaaLawGreatest
namespace Go.Proofs.Ytancficmkkdnfaa

/-- A word has a square exactly if its greatest exponent is at least 2. -/
theorem free_gr (l : List UInt8) (h : l ≠ []) : freeB l = false ↔ 2 * (gr l).period ≤ (gr l).size := by
  obtain ⟨h1, h2, h3, h4, h5⟩ := gr_spec l h
  rw [not_free]
  constructor
  · rintro ⟨i, p, hp, hl, hk⟩
    have := h2 i (2 * p) (by omega) hl
    have hm : per (l.drop i) (2 * p) ≤ p := per_min _ _ _ ⟨hp, by omega, fun k hk2 => by
      rw [List.getElem?_drop, List.getElem?_drop]
      have := hk k (by omega)
      rw [this, show i + p + k = i + (p + k) by omega]⟩
    have h6 : 2 * p * (gr l).period ≤ (gr l).size * p := Nat.le_trans this (Nat.mul_le_mul_left _ hm)
    have h7 : p * (2 * (gr l).period) ≤ p * (gr l).size := by
      calc p * (2 * (gr l).period) = 2 * p * (gr l).period := by rw [← Nat.mul_assoc, Nat.mul_comm p 2]
        _ ≤ (gr l).size * p := h6
        _ = p * (gr l).size := Nat.mul_comm _ _
    exact Nat.le_of_mul_le_mul_left h7 (by omega)
  · intro h6
    have hi := per_is (l.drop (gr l).at_) (gr l).size (by omega)
    rw [← h5] at hi
    obtain ⟨p1, p2, p3⟩ := hi
    refine ⟨(gr l).at_, (gr l).period, p1, by omega, fun k hk => ?_⟩
    have := p3 k (by omega)
    rw [List.getElem?_drop, List.getElem?_drop] at this
    rw [← this, show (gr l).at_ + ((gr l).period + k) = (gr l).at_ + (gr l).period + k by omega]
theorem half_frac (S P : Nat) (hP : 0 < P) : 2 * (P / Nat.gcd S P) ≤ S / Nat.gcd S P ↔ 2 * P ≤ S := by
  obtain ⟨c, hc⟩ := Nat.gcd_dvd_left S P
  obtain ⟨d, hd⟩ := Nat.gcd_dvd_right S P
  have hg : 0 < Nat.gcd S P := Nat.gcd_pos_of_pos_right _ hP
  have e1 : S / Nat.gcd S P = c := by
    conv => lhs; lhs; rw [hc]
    exact Nat.mul_div_cancel_left _ hg
  have e2 : P / Nat.gcd S P = d := by
    conv => lhs; lhs; rw [hd]
    exact Nat.mul_div_cancel_left _ hg
  rw [e1, e2]
  generalize Nat.gcd S P = g at *
  subst hc hd
  constructor
  · intro h
    calc 2 * (g * d) = g * (2 * d) := by rw [Nat.mul_left_comm]
      _ ≤ g * c := Nat.mul_le_mul_left _ h
  · intro h
    have h2 : g * (2 * d) ≤ g * c := by
      calc g * (2 * d) = 2 * (g * d) := by rw [Nat.mul_left_comm]
        _ ≤ g * c := h
    exact Nat.le_of_mul_le_mul_left h2 hg
end Go.Proofs.Ytancficmkkdnfaa
