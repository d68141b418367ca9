/-
  Borders and periods: plain.
-/
import Derived.Test.YtancficmkkdnfaaPure
namespace Go.Proofs.Ytancficmkkdnfaa

/-- The beginning of k letters is an end of the first n letters, too, but not all of them. -/
def IsB (l : List UInt8) (n k : Nat) : Prop := k < n ∧ ∀ i, i < k → l[n - k + i]? = l[i]?
theorem IsB.zero {l : List UInt8} {n : Nat} (h : 0 < n) : IsB l n 0 := ⟨h, fun _ h => absurd h (Nat.not_lt_zero _)⟩
instance (l : List UInt8) (n k : Nat) : Decidable (IsB l n k) := by unfold IsB; exact inferInstance
theorem IsB.succ {l : List UInt8} {m j : Nat} : IsB l (m + 1) (j + 1) ↔ IsB l m j ∧ l[m]? = l[j]? := by
  constructor
  · intro ⟨h1, h2⟩
    refine ⟨⟨by omega, fun i hi => ?_⟩, ?_⟩
    · have := h2 i (by omega)
      rwa [show m + 1 - (j + 1) + i = m - j + i by omega] at this
    · have := h2 j (by omega)
      rwa [show m + 1 - (j + 1) + j = m by omega] at this
  · intro ⟨⟨h1, h2⟩, h3⟩
    refine ⟨by omega, fun i hi => ?_⟩
    by_cases hij : i < j
    · rw [show m + 1 - (j + 1) + i = m - j + i by omega]; exact h2 i hij
    · rw [show i = j by omega, show m + 1 - (j + 1) + j = m by omega]; exact h3
theorem IsB.inner {l : List UInt8} {m j k : Nat} (hk : IsB l m k) (hj : IsB l m j) (h : j < k) : IsB l k j := by
  refine ⟨h, fun i hi => ?_⟩
  have h1 := hk.2 (k - j + i) (by omega)
  have h2 := hj.2 i hi
  have := hk.1
  rw [show m - k + (k - j + i) = m - j + i by omega] at h1
  rw [← h1, h2]
theorem IsB.outer {l : List UInt8} {m j k : Nat} (hk : IsB l m k) (hj : IsB l k j) : IsB l m j := by
  have h1 := hk.1
  have h2 := hj.1
  refine ⟨by omega, fun i hi => ?_⟩
  have h3 := hk.2 (k - j + i) (by omega)
  rw [show m - k + (k - j + i) = m - j + i by omega] at h3
  rw [h3, hj.2 i hi]

def brdD (l : List UInt8) (n : Nat) : Nat → Nat
  | 0 => 0
  | k + 1 => if IsB l n (k + 1) then k + 1 else brdD l n k
/-- The longest border of the first n letters. -/
def brd (l : List UInt8) (n : Nat) : Nat := brdD l n (n - 1)
theorem brdD_le (l : List UInt8) (n k : Nat) : brdD l n k ≤ k := by
  induction k with
  | zero => exact Nat.le_refl _
  | succ k ih => rw [brdD]; split <;> omega
theorem brdD_is (l : List UInt8) (n k : Nat) (h : 0 < n) : IsB l n (brdD l n k) := by
  induction k with
  | zero => exact IsB.zero h
  | succ k ih => rw [brdD]; split
                 · assumption
                 · exact ih
theorem brdD_max (l : List UInt8) (n k j : Nat) (hj : IsB l n j) (hk : j ≤ k) : j ≤ brdD l n k := by
  induction k with
  | zero => omega
  | succ k ih =>
    rw [brdD]; split
    · omega
    · rename_i h
      by_cases hjk : j = k + 1
      · subst hjk; exact absurd hj h
      · exact ih (by omega)
theorem brd_is (l : List UInt8) (n : Nat) (h : 0 < n) : IsB l n (brd l n) := brdD_is l n _ h
theorem brd_max (l : List UInt8) (n j : Nat) (hj : IsB l n j) : j ≤ brd l n := brdD_max l n _ j hj (by have := hj.1; omega)
theorem brd_lt (l : List UInt8) (n : Nat) (h : 0 < n) : brd l n < n := (brd_is l n h).1
theorem brd_le (l : List UInt8) (n : Nat) : brd l n ≤ n := by
  have := brdD_le l n (n - 1)
  unfold brd; omega
theorem brd_zero (l : List UInt8) : brd l 0 = 0 := rfl
theorem brd_one (l : List UInt8) : brd l 1 = 0 := rfl
theorem brd_eq (l : List UInt8) (n k : Nat) (hk : IsB l n k) (hmax : ∀ j, IsB l n j → j ≤ k) : brd l n = k :=
  Nat.le_antisymm (hmax _ (brd_is l n (by have := hk.1; omega))) (brd_max l n k hk)

/-- What the inner loop of the border search keeps: k is a border of the first m letters, and no border of one letter more is longer than k + 1. -/
def Cand (l : List UInt8) (m k : Nat) : Prop := IsB l m k ∧ ∀ j, IsB l (m + 1) j → j ≤ k + 1
theorem Cand.start (l : List UInt8) (m : Nat) (h : 0 < m) : Cand l m (brd l m) := by
  refine ⟨brd_is l m h, fun j hj => ?_⟩
  cases j with
  | zero => omega
  | succ j => have := brd_max l m j (IsB.succ.1 hj).1; omega
theorem Cand.next {l : List UInt8} {m k : Nat} (h : Cand l m k) (hk : 0 < k) (hne : l[k]? ≠ l[m]?) : Cand l m (brd l k) := by
  refine ⟨h.1.outer (brd_is l k hk), fun j hj => ?_⟩
  cases j with
  | zero => omega
  | succ j =>
    obtain ⟨h1, h2⟩ := IsB.succ.1 hj
    have h3 := h.2 _ hj
    have h4 : j ≠ k := fun e => hne (by rw [← e, h2])
    have := brd_max l k j (h.1.inner h1 (by omega))
    omega
theorem Cand.hit {l : List UInt8} {m k : Nat} (h : Cand l m k) (he : l[k]? = l[m]?) : brd l (m + 1) = k + 1 :=
  brd_eq _ _ _ (IsB.succ.2 ⟨h.1, he.symm⟩) h.2
theorem Cand.miss {l : List UInt8} {m k : Nat} (h : Cand l m k) (h0 : k = 0) (hne : l[k]? ≠ l[m]?) : brd l (m + 1) = 0 := by
  refine brd_eq _ _ _ (IsB.zero (by omega)) fun j hj => ?_
  cases j with
  | zero => omega
  | succ j =>
    have h3 := h.2 _ hj
    exact absurd (by rw [show k = j by omega]; exact (IsB.succ.1 hj).2.symm) hne

/-- p is a period of the first n letters. -/
def IsP (l : List UInt8) (n p : Nat) : Prop := 1 ≤ p ∧ p ≤ n ∧ ∀ i, p + i < n → l[p + i]? = l[i]?
theorem isP_iff (l : List UInt8) (n p : Nat) (hn : p ≤ n) : IsP l n p ↔ IsB l n (n - p) := by
  constructor
  · intro ⟨h1, h2, h3⟩
    refine ⟨by omega, fun i hi => ?_⟩
    rw [show n - (n - p) = p by omega]
    exact h3 i (by omega)
  · intro ⟨h1, h2⟩
    refine ⟨by omega, hn, fun i hi => ?_⟩
    have := h2 i (by omega)
    rwa [show n - (n - p) = p by omega] at this
/-- The smallest period of the first n letters. -/
def per (l : List UInt8) (n : Nat) : Nat := n - brd l n
theorem per_is (l : List UInt8) (n : Nat) (h : 0 < n) : IsP l n (per l n) := by
  have := brd_lt l n h
  rw [isP_iff _ _ _ (by unfold per; omega), per, show n - (n - brd l n) = brd l n by omega]
  exact brd_is l n h
theorem per_min (l : List UInt8) (n p : Nat) (h : IsP l n p) : per l n ≤ p := by
  have h2 := h.2.1
  have := brd_max l n _ ((isP_iff l n p h2).1 h)
  unfold per; omega
theorem per_eq (l : List UInt8) (n p : Nat) (h : IsP l n p) (hmin : ∀ q, IsP l n q → p ≤ q) : per l n = p :=
  Nat.le_antisymm (per_min l n p h) (hmin _ (per_is l n (by have := h.1; have := h.2.1; omega)))
theorem per_pos (l : List UInt8) (n : Nat) (h : 0 < n) : 1 ≤ per l n := (per_is l n h).1
theorem per_le (l : List UInt8) (n : Nat) : per l n ≤ n := Nat.sub_le _ _
theorem IsP.less {l : List UInt8} {n m p : Nat} (h : IsP l n p) (hm : p ≤ m) (hmn : m ≤ n) : IsP l m p :=
  ⟨h.1, hm, fun i hi => h.2.2 i (by omega)⟩
theorem per_mono (l : List UInt8) (m n : Nat) (hm : 0 < m) (h : m ≤ n) : per l m ≤ per l n := by
  by_cases hp : per l n ≤ m
  · exact per_min l m _ ((per_is l n (by omega)).less hp h)
  · have := per_le l m; omega
theorem isP_full (l : List UInt8) (n : Nat) (h : 0 < n) : IsP l n n := ⟨h, Nat.le_refl _, fun i hi => absurd hi (by omega)⟩

theorem isP_lists (l : List UInt8) (n p : Nat) (h1 : 1 ≤ p) (hp : p ≤ n) (hn : n ≤ l.length) : IsP l n p ↔ (l.take n).drop p = l.take (n - p) := by
  constructor
  · intro h
    apply List.ext_getElem?
    intro i
    rw [List.getElem?_drop, List.getElem?_take, List.getElem?_take]
    by_cases hi : p + i < n
    · rw [if_pos hi, if_pos (by omega), h.2.2 i hi]
    · rw [if_neg hi, if_neg (by omega)]
  · intro h
    refine ⟨h1, hp, fun i hi => ?_⟩
    have := congrArg (fun x => x[i]?) h
    simp only [List.getElem?_drop, List.getElem?_take] at this
    rwa [if_pos hi, if_pos (by omega)] at this

/-! ### The greatest exponent -/
structure St where
  at_ : Nat
  size : Nat
  period : Nat
def grS (d : List UInt8) (i : Nat) (st : St) (n : Nat) : St :=
  if st.size * per d n < n * st.period then ⟨i, n, per d n⟩ else st
def grI (d : List UInt8) (i : Nat) (st : St) : St := (List.range' 1 d.length).foldl (grS d i) st
def grO (l : List UInt8) (st : St) : St := (List.range' 0 l.length).foldl (fun st i => grI (l.drop i) i st) st
def gr (l : List UInt8) : St := grO l ⟨0, 0, 1⟩

theorem range'_cons (a n : Nat) (h : 0 < n) : List.range' a n = a :: List.range' (a + 1) (n - 1) := by
  obtain ⟨m, rfl⟩ : ∃ m, n = m + 1 := ⟨n - 1, by omega⟩
  rfl

/-- No part that begins at i with at most n letters exceeds the state. -/
theorem grS_period (d : List UInt8) (i : Nat) (st : St) (n : Nat) (hn : 0 < n) (h : 1 ≤ st.period) : 1 ≤ (grS d i st n).period := by
  unfold grS; split
  · exact per_pos d n hn
  · exact h
theorem grS_ge (d : List UInt8) (i : Nat) (st : St) (n : Nat) (hn : 0 < n) (h : 1 ≤ st.period) :
    st.size * (grS d i st n).period ≤ (grS d i st n).size * st.period ∧ n * (grS d i st n).period ≤ (grS d i st n).size * per d n := by
  unfold grS; split
  · rename_i h2; exact ⟨Nat.le_of_lt h2, Nat.le_refl _⟩
  · rename_i h2; exact ⟨Nat.le_refl _, by omega⟩
theorem frac_trans {a b c d e f : Nat} (hd : 0 < d) (h1 : a * d ≤ c * b) (h2 : c * f ≤ e * d) : a * f ≤ e * b := by
  have h3 : a * d * f ≤ c * b * f := Nat.mul_le_mul_right _ h1
  have h4 : c * f * b ≤ e * d * b := Nat.mul_le_mul_right _ h2
  have h5 : a * f * d ≤ e * b * d := by
    calc a * f * d = a * d * f := by rw [Nat.mul_right_comm]
      _ ≤ c * b * f := h3
      _ = c * f * b := by rw [Nat.mul_right_comm]
      _ ≤ e * d * b := h4
      _ = e * b * d := by rw [Nat.mul_right_comm]
  exact Nat.le_of_mul_le_mul_right h5 hd
/-- The state is an exponent of a part. -/
def Part (l : List UInt8) (st : St) : Prop := 1 ≤ st.size ∧ st.at_ + st.size ≤ l.length ∧ st.period = per (l.drop st.at_) st.size
theorem grI_spec (l : List UInt8) (i : Nat) : ∀ (k a : Nat) (st : St), 0 < a → i + (a + k) ≤ l.length + 1 → 1 ≤ st.period →
    1 ≤ ((List.range' a k).foldl (grS (l.drop i) i) st).period ∧
    st.size * ((List.range' a k).foldl (grS (l.drop i) i) st).period ≤ ((List.range' a k).foldl (grS (l.drop i) i) st).size * st.period ∧
    (∀ n, a ≤ n → n < a + k → n * ((List.range' a k).foldl (grS (l.drop i) i) st).period ≤ ((List.range' a k).foldl (grS (l.drop i) i) st).size * per (l.drop i) n) ∧
    (((List.range' a k).foldl (grS (l.drop i) i) st) = st ∨ Part l ((List.range' a k).foldl (grS (l.drop i) i) st)) := by
  intro k
  induction k with
  | zero => intro a st ha hl h; exact ⟨h, Nat.le_refl _, fun n h1 h2 => absurd h2 (by omega), .inl rfl⟩
  | succ k ih =>
    intro a st ha hl h
    have hp := grS_period (l.drop i) i st a ha h
    have hg := grS_ge (l.drop i) i st a ha h
    obtain ⟨h1, h2, h3, h4⟩ := ih (a + 1) (grS (l.drop i) i st a) (by omega) (by omega) hp
    rw [List.range'_succ, List.foldl_cons]
    generalize hR : (List.range' (a + 1) k).foldl (grS (l.drop i) i) (grS (l.drop i) i st a) = R at *
    refine ⟨h1, frac_trans hp hg.1 h2, fun n hn1 hn2 => ?_, ?_⟩
    · by_cases hna : n = a
      · subst hna; exact frac_trans hp hg.2 h2
      · exact h3 n (by omega) (by omega)
    · rcases h4 with h4 | h4
      · rw [h4]
        unfold grS; split
        · exact .inr ⟨ha, by simp only; omega, rfl⟩
        · exact .inl rfl
      · exact .inr h4
theorem grO_spec (l : List UInt8) : ∀ (k a : Nat) (st : St), a + k = l.length → 1 ≤ st.period →
    1 ≤ ((List.range' a k).foldl (fun st i => grI (l.drop i) i st) st).period ∧
    st.size * ((List.range' a k).foldl (fun st i => grI (l.drop i) i st) st).period ≤ ((List.range' a k).foldl (fun st i => grI (l.drop i) i st) st).size * st.period ∧
    (∀ i n, a ≤ i → 1 ≤ n → i + n ≤ l.length → n * ((List.range' a k).foldl (fun st i => grI (l.drop i) i st) st).period ≤ ((List.range' a k).foldl (fun st i => grI (l.drop i) i st) st).size * per (l.drop i) n) ∧
    (((List.range' a k).foldl (fun st i => grI (l.drop i) i st) st) = st ∨ Part l ((List.range' a k).foldl (fun st i => grI (l.drop i) i st) st)) := by
  intro k
  induction k with
  | zero => intro a st ha h; exact ⟨h, Nat.le_refl _, fun i n h1 h2 h3 => absurd h3 (by omega), .inl rfl⟩
  | succ k ih =>
    intro a st ha h
    obtain ⟨g1, g2, g3, g4⟩ := grI_spec l a (l.drop a).length 1 st (by omega) (by rw [List.length_drop]; omega) h
    rw [show (List.range' 1 (l.drop a).length).foldl (grS (l.drop a) a) st = grI (l.drop a) a st from rfl] at g1 g2 g3 g4
    obtain ⟨h1, h2, h3, h4⟩ := ih (a + 1) (grI (l.drop a) a st) (by omega) g1
    rw [List.range'_succ, List.foldl_cons]
    generalize hR : (List.range' (a + 1) k).foldl (fun st i => grI (l.drop i) i st) (grI (l.drop a) a st) = R at *
    refine ⟨h1, frac_trans g1 g2 h2, fun i n hi hn1 hn2 => ?_, ?_⟩
    · by_cases hia : i = a
      · subst hia; exact frac_trans g1 (g3 n hn1 (by rw [List.length_drop]; omega)) h2
      · exact h3 i n (by omega) hn1 hn2
    · rcases h4 with h4 | h4
      · rw [h4]; exact g4
      · exact .inr h4
/-- The greatest exponent is at least that of any part, and is that of a part. -/
theorem gr_spec (l : List UInt8) (h : l ≠ []) : 1 ≤ (gr l).period ∧ (∀ i n, 1 ≤ n → i + n ≤ l.length → n * (gr l).period ≤ (gr l).size * per (l.drop i) n) ∧ Part l (gr l) := by
  have hl : 0 < l.length := List.length_pos_iff.2 h
  obtain ⟨h1, _, h3, h4⟩ := grO_spec l l.length 0 ⟨0, 0, 1⟩ (by omega) (Nat.le_refl _)
  rw [show (List.range' 0 l.length).foldl (fun st i => grI (l.drop i) i st) ⟨0, 0, 1⟩ = gr l from rfl] at h1 h3 h4
  refine ⟨h1, fun i n => h3 i n (Nat.zero_le _), ?_⟩
  rcases h4 with h4 | h4
  · have := h3 0 1 (by omega) (by omega) (by omega)
    rw [h4] at this
    simp at this
  · exact h4
end Go.Proofs.Ytancficmkkdnfaa
