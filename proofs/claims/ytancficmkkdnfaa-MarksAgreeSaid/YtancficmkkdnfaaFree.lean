/-
  Square-free words: what they are. No program.
-/
import Derived.Test.YtancficmkkdnfaaB
namespace Go.Proofs.Ytancficmkkdnfaa

/-- A square lies in the word. -/
def HasSq (l : List UInt8) : Prop := ∃ i p, 1 ≤ p ∧ i + 2 * p ≤ l.length ∧ ∀ k, k < p → l[i + k]? = l[i + p + k]?

theorem take_same (d : List UInt8) (q : Nat) : (d.take q = (d.drop q).take q) ↔ ∀ k, k < q → d[k]? = d[q + k]? := by
  constructor
  · intro h k hk
    have := congrArg (·[k]?) h
    simpa [List.getElem?_take, hk] using this
  · intro h
    apply List.ext_getElem?
    intro k
    rw [List.getElem?_take, List.getElem?_take, List.getElem?_drop]
    by_cases hk : k < q
    · simp [hk, h k hk]
    · simp [hk]
theorem sqI_none (d : List UInt8) : ∀ (m p : Nat), d.length + 1 - p ≤ m → (sqI d p = none ↔ ∀ q, p ≤ q → 2 * q ≤ d.length → ¬ ∀ k, k < q → d[k]? = d[q + k]?) := by
  intro m
  induction m with
  | zero =>
    intro p hp
    rw [sqI_end d p (by omega)]
    exact ⟨fun _ q h1 h2 => by omega, fun _ => rfl⟩
  | succ m ih =>
    intro p hp
    by_cases h : 2 * p ≤ d.length
    · by_cases he : d.take p = (d.drop p).take p
      · rw [sqI_yes d p h he]
        exact ⟨fun h1 => (nomatch h1), fun h1 => absurd ((take_same d p).1 he) (h1 p (Nat.le_refl _) h)⟩
      · rw [sqI_no d p h he, ih (p + 1) (by omega)]
        constructor
        · intro h1 q hq h2
          rcases Nat.lt_or_ge p q with h3 | h3
          · exact h1 q h3 h2
          · rw [show q = p by omega]; exact fun h4 => he ((take_same d p).2 h4)
        · intro h1 q hq h2
          exact h1 q (by omega) h2
    · rw [sqI_end d p (by omega)]
      exact ⟨fun _ q h1 h2 => by omega, fun _ => rfl⟩
theorem sqO_isNone : ∀ (l : List UInt8) (i : Nat), (sqO l i).isNone = true ↔ ∀ j, j < l.length → sqI (l.drop j) 1 = none := by
  intro l
  induction l with
  | nil => intro i; simp [sqO]
  | cons c l ih =>
    intro i
    rw [sqO]
    cases hq : sqI (c :: l) 1 with
    | some p =>
      simp only [Option.isNone_some, Bool.false_eq_true, false_iff]
      intro h
      have := h 0 (by simp)
      rw [List.drop_zero, hq] at this
      exact nomatch this
    | none =>
      simp only
      rw [ih]
      constructor
      · intro h j hj
        cases j with
        | zero => simpa using hq
        | succ j => simpa using h j (by simpa using hj)
      · intro h j hj
        simpa using h (j + 1) (by simpa using hj)
theorem free_iff (l : List UInt8) : freeB l = true ↔ ¬ HasSq l := by
  rw [freeB, sq, sqO_isNone]
  constructor
  · rintro h ⟨i, p, h1, h2, h3⟩
    have := (sqI_none (l.drop i) _ 1 (Nat.le_refl _)).1 (h i (by omega)) p h1 (by rw [List.length_drop]; omega)
    refine this fun k hk => ?_
    rw [List.getElem?_drop, List.getElem?_drop, h3 k hk, Nat.add_assoc]
  · intro h j hj
    refine (sqI_none (l.drop j) _ 1 (Nat.le_refl _)).2 fun q h1 h2 h3 => h ⟨j, q, h1, by rw [List.length_drop] at h2; omega, fun k hk => ?_⟩
    have := h3 k hk
    rw [List.getElem?_drop, List.getElem?_drop] at this
    rw [this, Nat.add_assoc]
theorem not_free (l : List UInt8) : freeB l = false ↔ HasSq l := by
  rw [← Bool.not_eq_true, free_iff]
  exact ⟨fun h => Classical.not_not.1 h, fun h1 h2 => h2 h1⟩

theorem HasSq.right {l : List UInt8} (h : HasSq l) (x : List UInt8) : HasSq (l ++ x) := by
  obtain ⟨i, p, h1, h2, h3⟩ := h
  refine ⟨i, p, h1, by rw [List.length_append]; omega, fun k hk => ?_⟩
  rw [List.getElem?_append_left (by omega), List.getElem?_append_left (by omega)]; exact h3 k hk
theorem HasSq.left {l : List UInt8} (h : HasSq l) (x : List UInt8) : HasSq (x ++ l) := by
  obtain ⟨i, p, h1, h2, h3⟩ := h
  refine ⟨x.length + i, p, h1, by rw [List.length_append]; omega, fun k hk => ?_⟩
  rw [List.getElem?_append_right (by omega), List.getElem?_append_right (by omega), show x.length + i + k - x.length = i + k by omega, show x.length + i + p + k - x.length = i + p + k by omega]; exact h3 k hk
theorem HasSq.drop {l : List UInt8} {n : Nat} (h : HasSq (l.drop n)) : HasSq l := by
  have := h.left (l.take n); rwa [List.take_append_drop] at this
theorem HasSq.take {l : List UInt8} {n : Nat} (h : HasSq (l.take n)) : HasSq l := by
  have := h.right (l.drop n); rwa [List.take_append_drop] at this
theorem free_part {l : List UInt8} (h : freeB l = true) (a b : Nat) : freeB ((l.drop a).take b) = true :=
  (free_iff _).2 fun h1 => (free_iff _).1 h h1.take.drop
theorem free_take {l : List UInt8} (h : freeB l = true) (a : Nat) : freeB (l.take a) = true := (free_iff _).2 fun h1 => (free_iff _).1 h h1.take
theorem free_drop {l : List UInt8} (h : freeB l = true) (a : Nat) : freeB (l.drop a) = true := (free_iff _).2 fun h1 => (free_iff _).1 h h1.drop
theorem HasSq.back {l : List UInt8} (h : HasSq l) : HasSq l.reverse := by
  obtain ⟨i, p, h1, h2, h3⟩ := h
  refine ⟨l.length - (i + 2 * p), p, h1, by rw [List.length_reverse]; omega, fun k hk => ?_⟩
  rw [List.getElem?_reverse (by omega), List.getElem?_reverse (by omega)]
  have := h3 (p - 1 - k) (by omega)
  rw [show i + (p - 1 - k) = l.length - 1 - (l.length - (i + 2 * p) + p + k) by omega, show i + p + (p - 1 - k) = l.length - 1 - (l.length - (i + 2 * p) + k) by omega] at this
  exact this.symm
theorem free_back (l : List UInt8) : freeB l.reverse = freeB l := by
  rw [Bool.eq_iff_iff, free_iff, free_iff]
  exact ⟨fun h h1 => h h1.back, fun h h1 => h (by have := h1.back; rwa [List.reverse_reverse] at this)⟩

/-- A square at the end. -/
def EndSq (l : List UInt8) (p : Nat) : Prop := 1 ≤ p ∧ 2 * p ≤ l.length ∧ ∀ k, k < p → l[l.length - 2 * p + k]? = l[l.length - p + k]?
theorem ends_same (l : List UInt8) (p : Nat) (h : 2 * p ≤ l.length) : (l.drop (l.length - p) = (l.drop (l.length - 2 * p)).take p) ↔ ∀ k, k < p → l[l.length - 2 * p + k]? = l[l.length - p + k]? := by
  constructor
  · intro h1 k hk
    have := congrArg (·[k]?) h1
    simp only [List.getElem?_drop, List.getElem?_take, hk, if_true] at this
    exact this.symm
  · intro h1
    apply List.ext_getElem?
    intro k
    rw [List.getElem?_take, List.getElem?_drop, List.getElem?_drop]
    by_cases hk : k < p
    · simp only [hk, if_true]; exact (h1 k hk).symm
    · simp only [hk, if_false]; exact List.getElem?_eq_none (by omega)
theorem endsI_iff (l : List UInt8) : ∀ (m p : Nat), l.length + 1 - p ≤ m → 1 ≤ p → (endsI l p = true ↔ ∃ q, p ≤ q ∧ EndSq l q) := by
  intro m
  induction m with
  | zero =>
    intro p hp h1
    rw [endsI, if_neg (by omega)]
    exact ⟨fun h => (nomatch h), fun ⟨q, a, b⟩ => by have := b.2.1; omega⟩
  | succ m ih =>
    intro p hp h1
    rw [endsI]
    by_cases h : 2 * p ≤ l.length
    · rw [if_pos h]
      by_cases he : l.drop (l.length - p) = (l.drop (l.length - 2 * p)).take p
      · rw [if_pos he]
        exact ⟨fun _ => ⟨p, Nat.le_refl _, h1, h, (ends_same l p h).1 he⟩, fun _ => rfl⟩
      · rw [if_neg he, ih (p + 1) (by omega) (by omega)]
        constructor
        · rintro ⟨q, a, b⟩; exact ⟨q, by omega, b⟩
        · rintro ⟨q, a, b⟩
          refine ⟨q, ?_, b⟩
          rcases Nat.lt_or_ge p q with h2 | h2
          · exact h2
          · exfalso
            have : q = p := by omega
            subst this
            exact he ((ends_same l q h).2 b.2.2)
    · rw [if_neg h]
      exact ⟨fun h => (nomatch h), fun ⟨q, a, b⟩ => by have := b.2.1; omega⟩
theorem ends_iff (l : List UInt8) : endsB l = true ↔ ∃ q, EndSq l q := by
  rw [endsB, endsI_iff l _ 1 (Nat.le_refl _) (Nat.le_refl _)]
  exact ⟨fun ⟨q, _, h⟩ => ⟨q, h⟩, fun ⟨q, h⟩ => ⟨q, h.1, h⟩⟩
theorem EndSq.has {l : List UInt8} {p : Nat} (h : EndSq l p) : HasSq l :=
  ⟨l.length - 2 * p, p, h.1, by have := h.2.1; omega, fun k hk => by
    have := h.2.2 k hk
    have h2 := h.2.1
    rw [show l.length - 2 * p + p + k = l.length - p + k by omega]; exact this⟩
theorem free_snoc (l : List UInt8) (c : UInt8) : freeB (l ++ [c]) = (freeB l && !endsB (l ++ [c])) := by
  rw [Bool.eq_iff_iff, Bool.and_eq_true, free_iff, free_iff]
  constructor
  · intro h
    refine ⟨fun h1 => h (h1.right _), ?_⟩
    cases he : endsB (l ++ [c]) with
    | false => rfl
    | true => obtain ⟨q, hq⟩ := (ends_iff _).1 he; exact absurd hq.has h
  · rintro ⟨h1, h2⟩ ⟨i, p, a, b, d⟩
    rw [List.length_append, List.length_singleton] at b
    rcases Nat.lt_or_ge (i + 2 * p) (l.length + 1) with h3 | h3
    · refine h1 ⟨i, p, a, by omega, fun k hk => ?_⟩
      have := d k hk
      rwa [List.getElem?_append_left (by omega), List.getElem?_append_left (by omega)] at this
    · have : endsB (l ++ [c]) = true := (ends_iff _).2 ⟨p, a, by rw [List.length_append, List.length_singleton]; omega, fun k hk => by
        have := d k hk
        rw [List.length_append, List.length_singleton, show l.length + 1 - 2 * p + k = i + k by omega, show l.length + 1 - p + k = i + p + k by omega]; exact this⟩
      rw [this] at h2
      exact nomatch h2
theorem free_nil : freeB [] = true := rfl
theorem free_one (c : UInt8) : freeB [c] = true := (free_iff _).2 fun ⟨i, p, a, b, _⟩ => by simp at b; omega
end Go.Proofs.Ytancficmkkdnfaa
