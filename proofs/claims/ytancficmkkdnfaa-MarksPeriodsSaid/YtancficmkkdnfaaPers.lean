/-
  Periods: the list of all, multiples, the greatest common divisor. No program.
-/
import Derived.Test.YtancficmkkdnfaaT
import Derived.Test.YtancficmkkdnfaaLawGreatest
namespace Go.Proofs.Ytancficmkkdnfaa

theorem perF_head (l : List UInt8) (q : Nat) (hq : l.drop q = l.take (l.length - q)) : ∀ (k p : Nat), p ≤ q → q < p + k → (∀ r, p ≤ r → r < q → l.drop r ≠ l.take (l.length - r)) → ∃ t, perF l p k = q :: t := by
  intro k
  induction k with
  | zero => intro p h1 h2; omega
  | succ k ih =>
    intro p h1 h2 h3
    rw [perF_step]
    rcases Nat.lt_or_ge p q with h | h
    · rw [if_neg (h3 p (Nat.le_refl _) h), List.nil_append]
      exact ih (p + 1) h (by omega) fun r a b => h3 r (by omega) b
    · have : p = q := by omega
      subst this
      rw [if_pos hq]; exact ⟨_, rfl⟩
theorem isP_whole (l : List UInt8) (p : Nat) (h1 : 1 ≤ p) (h2 : p ≤ l.length) : IsP l l.length p ↔ l.drop p = l.take (l.length - p) := by
  rw [isP_parts l l.length p h1 h2, List.take_of_length_le (by rw [List.length_drop]; omega)]
theorem perL_head (l : List UInt8) (h : 0 < l.length) : ∃ t, perL l = per l l.length :: t := by
  have hb := per_bounds l l.length h
  refine perF_head l _ ((isP_whole l _ hb.1 hb.2).1 (per_is l _ h)) l.length 1 hb.1 (by omega) fun r a b hr => ?_
  have := per_min l l.length r ((isP_whole l r a (by omega)).2 hr)
  omega

theorem mem_perL (l : List UInt8) (p : Nat) : p ∈ perL l ↔ IsP l l.length p := by
  unfold perL perF
  rw [List.mem_filter, List.mem_range'_1, decide_eq_true_eq]
  constructor
  · rintro ⟨⟨h1, h2⟩, h3⟩; exact (isP_whole l p h1 (by omega)).2 h3
  · intro h
    have h1 := h.1
    have h2 := h.2.1
    exact ⟨⟨h1, by omega⟩, (isP_whole l p h1 h2).1 h⟩
theorem perL_sorted (l : List UInt8) : (perL l).Pairwise (· < ·) := by
  unfold perL perF
  exact List.Pairwise.filter _ List.pairwise_lt_range'
theorem isP_all (l : List UInt8) (n : Nat) (h : 1 ≤ n) : IsP l n n := ⟨h, Nat.le_refl _, fun i hi => by omega⟩
theorem isP_add {l : List UInt8} {n p q : Nat} (hp : IsP l n p) (hq : IsP l n q) (h : p + q ≤ n) : IsP l n (p + q) :=
  ⟨by have := hp.1; omega, h, fun i hi => by
    have h1 := hp.2.2 (q + i) (by omega)
    have h2 := hq.2.2 i (by omega)
    rw [show p + q + i = p + (q + i) by omega, h1, h2]⟩
theorem isP_mul {l : List UInt8} {n p : Nat} (hp : IsP l n p) : ∀ k, 1 ≤ k → k * p ≤ n → IsP l n (k * p) := by
  intro k
  induction k with
  | zero => intro h; omega
  | succ k ih =>
    intro _ h
    rcases Nat.eq_zero_or_pos k with rfl | hk
    · simpa using hp
    · rw [Nat.add_mul, Nat.one_mul] at h ⊢
      exact isP_add (ih hk (by omega)) hp h
/-- The difference of two periods whose sum is at most the length. -/
theorem isP_sub {l : List UInt8} {n p q : Nat} (hp : IsP l n p) (hq : IsP l n q) (h : p + q ≤ n) (hlt : q < p) : IsP l n (p - q) :=
  ⟨by omega, by omega, fun i hi => by
    by_cases h1 : p + i < n
    · have a := hp.2.2 i h1
      have b := hq.2.2 (p - q + i) (by omega)
      rw [show q + (p - q + i) = p + i by omega] at b
      rw [← b, a]
    · have b := hq.2.2 (i - q) (by omega)
      have a := hp.2.2 (i - q) (by omega)
      rw [show q + (i - q) = i by omega] at b
      rw [show p + (i - q) = p - q + i by omega] at a
      rw [a, b]⟩
/-- **Fine and Wilf.** -/
theorem isP_gcd {l : List UInt8} {n : Nat} : ∀ (f p q : Nat), p + q ≤ f → IsP l n p → IsP l n q → p + q ≤ n → IsP l n (Nat.gcd p q) := by
  intro f
  induction f with
  | zero => intro p q h hp; have := hp.1; omega
  | succ f ih =>
    intro p q h hp hq hn
    have p1 := hp.1
    have q1 := hq.1
    rcases Nat.lt_trichotomy p q with hlt | rfl | hlt
    · have := ih p (q - p) (by omega) hp (isP_sub hq hp (by omega) hlt) (by omega)
      rwa [Nat.gcd_sub_self_right (by omega)] at this
    · rw [Nat.gcd_self]; exact hp
    · have := ih (p - q) q (by omega) (isP_sub hp hq hn hlt) hq (by omega)
      rwa [Nat.gcd_sub_self_left (by omega)] at this
end Go.Proofs.Ytancficmkkdnfaa
