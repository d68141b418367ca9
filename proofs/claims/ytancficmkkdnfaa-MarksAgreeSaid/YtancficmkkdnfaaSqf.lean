/-
  Maps that keep words square-free: only short words need to be looked at. No program.
-/
namespace Go.Proofs.Ytancficmkkdnfaa

/-- A word of n letters a 0, a 1, .. whose images, laid one behind the other from o 0 = 0 on, read W; a square of period d begins at s, in the first image, and ends in the last one. -/
structure Laid {A B : Type} (n : Nat) (a : Nat → A) (len : A → Nat) (ch : A → Nat → B) (o : Nat → Nat) (W : Nat → B) (s d : Nat) : Prop where
  o0 : o 0 = 0
  os : ∀ i, i < n → o (i + 1) = o i + len (a i)
  pos : ∀ i, i < n → 1 ≤ len (a i)
  reads : ∀ i k, i < n → k < len (a i) → W (o i + k) = ch (a i) k
  d1 : 1 ≤ d
  fit : s + 2 * d ≤ o n
  sq : ∀ k, k < d → W (s + k) = W (s + d + k)
  left : s < o 1
  right : o (n - 1) < s + 2 * d
  sf : ∀ p q, 1 ≤ q → p + 2 * q ≤ n → ¬ ∀ k, k < q → a (p + k) = a (p + q + k)
  hO : ∀ i l, i < n → l < n → ∀ t, 1 ≤ t → t ≤ len (a i) → t ≤ len (a l) → (∀ k, k < t → ch (a i) (len (a i) - t + k) = ch (a l) k) → a i = a l
  hT : ∀ i l, i < n → l < n → a i ≠ a l → ∀ t, 1 ≤ t → t + len (a l) ≤ len (a i) → (∀ k, k < t → ch (a i) (len (a i) - t + k) = ch (a i) k) →
    (∀ k, k < len (a l) → ch (a i) (t + k) = ch (a l) k) → False
  hU : ∀ i l, i < n → l < n → a i ≠ a l → ∀ t, 1 ≤ t → t + len (a l) ≤ len (a i) → (∀ k, k < t → ch (a i) (len (a i) - t + k) = ch (a i) k) →
    (∀ k, k < len (a l) → ch (a i) (len (a i) - t - len (a l) + k) = ch (a l) k) → False
  h3 : ∀ i j l, i < n → j < n → l < n → a i ≠ a j → a j ≠ a l → ∀ t, 1 ≤ t → t ≤ len (a i) → t ≤ len (a j) → len (a j) - t ≤ len (a l) →
    (∀ k, k < t → ch (a i) (len (a i) - t + k) = ch (a j) (len (a j) - t + k)) → (∀ k, k < len (a j) - t → ch (a j) k = ch (a l) k) → False

theorem eqW {B : Type} {W : Nat → B} {p q p' q' : Nat} {x y : B} (r1 : W p = x) (r2 : W q = y) (r3 : W p' = W q') (h1 : p = p') (h2 : q = q') : x = y := by
  subst h1 h2; rw [← r1, ← r2, r3]

namespace Laid
variable {A B : Type} {n : Nat} {a : Nat → A} {len : A → Nat} {ch : A → Nat → B} {o : Nat → Nat} {W : Nat → B} {s d : Nat}

theorem ne (h : Laid n a len ch o W s d) (i : Nat) (hi : i + 1 < n) : a i ≠ a (i + 1) := fun e =>
  h.sf i 1 (by omega) (by omega) fun k hk => by
    have : k = 0 := by omega
    subst this; exact e
theorem mono (h : Laid n a len ch o W s d) (i : Nat) : ∀ j, i + j ≤ n → o i + j ≤ o (i + j) := by
  intro j
  induction j with
  | zero => intro _; exact Nat.le_refl _
  | succ j ih =>
    intro hj
    have h1 := ih (by omega)
    have h2 := h.os (i + j) (by omega)
    have h3 := h.pos (i + j) (by omega)
    rw [show i + (j + 1) = i + j + 1 by omega]; omega
theorem lt (h : Laid n a len ch o W s d) {i j : Nat} (hij : i < j) (hj : j ≤ n) : o i < o j := by
  have := h.mono i (j - i) (by omega)
  rw [show i + (j - i) = j by omega] at this; omega
theorem le (h : Laid n a len ch o W s d) {i j : Nat} (hij : i ≤ j) (hj : j ≤ n) : o i ≤ o j := by
  rcases Nat.lt_or_ge i j with h1 | h1
  · exact Nat.le_of_lt (h.lt h1 hj)
  · rw [show i = j by omega]; exact Nat.le_refl _
theorem lt_of (h : Laid n a len ch o W s d) {i j : Nat} (hi : i ≤ n) (ho : o i < o j) : i < j := by
  rcases Nat.lt_or_ge i j with h1 | h1
  · exact h1
  · have := h.le h1 hi; omega

/-- An end in the first half over a beginning in the second one. -/
theorem over1 (h : Laid n a len ch o W s d) {i l : Nat} (hi : i < n) (hl : l < n) (p t : Nat) (ht : 1 ≤ t) (h1 : p + d = o l) (h2 : p + t = o (i + 1)) (h3 : s ≤ p) (h4 : p + t ≤ s + d)
    (h5 : o i ≤ p) (h6 : p + d + t ≤ o (l + 1)) : a i = a l := by
  have e1 := h.os i hi
  have e2 := h.os l hl
  refine h.hO i l hi hl t ht (by omega) (by omega) fun k hk => ?_
  have r1 := h.reads i (len (a i) - t + k) hi (by omega)
  have r2 := h.reads l k hl (by omega)
  have r3 := h.sq (p + k - s) (by omega)
  exact eqW r1 r2 r3 (by omega) (by omega)
/-- An end in the second half over a beginning in the first one. -/
theorem over2 (h : Laid n a len ch o W s d) {i l : Nat} (hi : i < n) (hl : l < n) (p t : Nat) (ht : 1 ≤ t) (h1 : p = o l) (h2 : p + d + t = o (i + 1)) (h3 : s ≤ p) (h4 : p + t ≤ s + d)
    (h5 : o i ≤ p + d) (h6 : p + t ≤ o (l + 1)) : a i = a l := by
  have e1 := h.os i hi
  have e2 := h.os l hl
  refine h.hO i l hi hl t ht (by omega) (by omega) fun k hk => ?_
  have r1 := h.reads i (len (a i) - t + k) hi (by omega)
  have r2 := h.reads l k hl (by omega)
  have r3 := h.sq (p + k - s) (by omega)
  exact eqW r1 r2 r3.symm (by omega) (by omega)

/-- A boundary of the first half, and behind it one of the second half, with none between them. -/
theorem alt12 (h : Laid n a len ch o W s d) (hn : 4 ≤ n) {i l : Nat} (hi1 : 1 ≤ i) (hin : i < n) (hi : o i < s + d) (hl1 : s + d < o l) (hl : l < n) (hg : o i + d < o l) (hA : o l < o (i + 1) + d) (hB : o (l - 1) < o i + d) : False := by
  have hil : i < l := h.lt_of (by omega) (by omega)
  have hsi : s < o i := Nat.lt_of_lt_of_le h.left (h.le hi1 (by omega))
  have hl2 : o l < s + 2 * d := Nat.lt_of_le_of_lt (h.le (show l ≤ n - 1 by omega) (by omega)) h.right
  have e1 := h.os i hin
  have e2 := h.os l hl
  have e3 := h.os (l - 1) (by omega)
  have e4 := h.os (i - 1) (by omega)
  rw [show l - 1 + 1 = l by omega] at e3
  rw [show i - 1 + 1 = i by omega] at e4
  have hE : a (l - 1) = a i := h.over2 (by omega) hin (o i) (o l - d - o i) (by omega) rfl (by rw [show l - 1 + 1 = l by omega]; omega) (by omega) (by omega) (by omega) (by omega)
  have hlen : len (a (l - 1)) = len (a i) := by rw [hE]
  have hf : a i ≠ a l := by
    have := h.ne (l - 1) (by omega)
    rw [show l - 1 + 1 = l by omega] at this
    rw [← hE]; exact this
  have hg' : a (i - 1) ≠ a i := by
    have := h.ne (i - 1) (by omega)
    rwa [show i - 1 + 1 = i by omega] at this
  have hbord : ∀ k, k < o l - d - o i → ch (a i) (len (a i) - (o l - d - o i) + k) = ch (a i) k := fun k hk => by
    have r1 := h.reads (l - 1) (len (a (l - 1)) - (o l - d - o i) + k) (by omega) (by omega)
    have r2 := h.reads i k hin (by omega)
    have r3 := h.sq (o i + k - s) (by omega)
    rw [hE] at r1
    exact eqW r1 r2 r3.symm (by omega) (by omega)
  -- to the right
  have hR : s + d < o (i + 1) := by
    by_cases c1 : o (l + 1) ≤ o (i + 1) + d ∧ o (l + 1) ≤ s + 2 * d
    · exfalso
      refine h.hT i l hin hl hf (o l - d - o i) (by omega) (by omega) hbord fun k hk => ?_
      have r1 := h.reads i (o l - d - o i + k) hin (by omega)
      have r2 := h.reads l k hl hk
      have r3 := h.sq (o l - d + k - s) (by omega)
      exact eqW r1 r2 r3 (by omega) (by omega)
    · by_cases c2 : o (i + 1) + d ≤ o (l + 1) ∧ o (i + 1) ≤ s + d
      · exact absurd (h.over1 hin hl (o l - d) (o (i + 1) + d - o l) (by omega) (by omega) (by omega) (by omega) (by omega) (by omega) (by omega)) hf
      · omega
  -- to the left
  have hL : o (l - 1) < s + d := by
    by_cases c1 : o (l - 1) ≤ o (i - 1) + d ∧ s ≤ o (i - 1)
    · exfalso
      refine h.hU i (i - 1) hin (by omega) (Ne.symm hg') (o l - d - o i) (by omega) (by omega) hbord fun k hk => ?_
      have r1 := h.reads (l - 1) (len (a (l - 1)) - (o l - d - o i) - len (a (i - 1)) + k) (by omega) (by omega)
      have r2 := h.reads (i - 1) k (by omega) hk
      have r3 := h.sq (o (i - 1) + k - s) (by omega)
      rw [hE] at r1
      exact eqW r1 r2 r3.symm (by omega) (by omega)
    · by_cases c2 : o (i - 1) + d ≤ o (l - 1) ∧ s + d ≤ o (l - 1)
      · refine absurd (h.over1 (i := i - 1) (l := l - 1) (by omega) (by omega) (o (l - 1) - d) (o i + d - o (l - 1)) (by omega) (by omega) ?_ (by omega) (by omega) (by omega) ?_) (by rw [hE]; exact hg')
        · rw [show i - 1 + 1 = i by omega]; omega
        · rw [show l - 1 + 1 = l by omega]; omega
      · omega
  -- one letter holds the middle
  have : l - 1 < i + 1 := h.lt_of (by omega) (by omega)
  have hli : l = i + 1 := by omega
  subst hli
  simp only [Nat.add_sub_cancel] at *
  -- then the letters next to it end the word
  have hlast : i + 1 + 1 = n := by
    by_cases c1 : o (i + 1 + 1) ≤ o (i + 1) + d ∧ o (i + 1 + 1) ≤ s + 2 * d
    · exfalso
      refine h.hT i (i + 1) hin hl hf (o (i + 1) - d - o i) (by omega) (by omega) hbord fun k hk => ?_
      have r1 := h.reads i (o (i + 1) - d - o i + k) hin (by omega)
      have r2 := h.reads (i + 1) k hl hk
      have r3 := h.sq (o (i + 1) - d + k - s) (by omega)
      exact eqW r1 r2 r3 (by omega) (by omega)
    · rcases Nat.lt_or_ge (i + 1 + 1) n with h1 | h1
      · have := h.le (show i + 1 + 1 ≤ n - 1 by omega) (by omega)
        have := h.right
        omega
      · omega
  have hfirst : i = 1 := by
    by_cases c1 : o i ≤ o (i - 1) + d ∧ s ≤ o (i - 1)
    · exfalso
      refine h.hU i (i - 1) hin (by omega) (Ne.symm hg') (o (i + 1) - d - o i) (by omega) (by omega) hbord fun k hk => ?_
      have r1 := h.reads i (len (a i) - (o (i + 1) - d - o i) - len (a (i - 1)) + k) (by omega) (by omega)
      have r2 := h.reads (i - 1) k (by omega) hk
      have r3 := h.sq (o (i - 1) + k - s) (by omega)
      exact eqW r1 r2 r3.symm (by omega) (by omega)
    · rcases Nat.lt_or_ge 1 i with h1 | h1
      · have := h.le (show 1 ≤ i - 1 by omega) (by omega)
        have := h.left
        omega
      · omega
  omega

/-- A boundary of the second half, and behind it one of the first half, with none between them. -/
theorem alt21 (h : Laid n a len ch o W s d) (hn : 4 ≤ n) {i l : Nat} (hi1 : 1 ≤ i) (hin : i < n) (hi : o i < s + d) (hl1 : s + d < o l) (hl : l < n) (hg : o l < o i + d) (hA : o (i - 1) + d < o l ∨ i = 1) (hB : o i + d < o (l + 1)) : False := by
  have hil : i < l := h.lt_of (by omega) (by omega)
  have hsi : s < o i := Nat.lt_of_lt_of_le h.left (h.le hi1 (by omega))
  have hl2 : o l < s + 2 * d := Nat.lt_of_le_of_lt (h.le (show l ≤ n - 1 by omega) (by omega)) h.right
  have e1 := h.os i hin
  have e2 := h.os l hl
  have e3 := h.os (l - 1) (by omega)
  have e4 := h.os (i - 1) (by omega)
  rw [show l - 1 + 1 = l by omega] at e3
  rw [show i - 1 + 1 = i by omega] at e4
  have hA' : o (i - 1) + d ≤ o l := by
    rcases hA with h1 | rfl
    · omega
    · have := h.o0; rw [show 1 - 1 = 0 from rfl]; omega
  have hE : a (i - 1) = a l := h.over1 (by omega) hl (o l - d) (o i + d - o l) (by omega) (by omega) (by rw [show i - 1 + 1 = i by omega]; omega) (by omega) (by omega) (by omega) (by omega)
  have hlen : len (a (i - 1)) = len (a l) := by rw [hE]
  have hf : a l ≠ a i := by
    have := h.ne (i - 1) (by omega)
    rw [show i - 1 + 1 = i by omega] at this
    rw [← hE]; exact this
  have hg' : a (l - 1) ≠ a l := by
    have := h.ne (l - 1) (by omega)
    rwa [show l - 1 + 1 = l by omega] at this
  have hbord : ∀ k, k < o i + d - o l → ch (a l) (len (a l) - (o i + d - o l) + k) = ch (a l) k := fun k hk => by
    have r1 := h.reads (i - 1) (len (a (i - 1)) - (o i + d - o l) + k) (by omega) (by omega)
    have r2 := h.reads l k hl (by omega)
    have r3 := h.sq (o l - d + k - s) (by omega)
    rw [hE] at r1
    exact eqW r1 r2 r3 (by omega) (by omega)
  have hR : s + d < o (i + 1) ∧ s + 2 * d < o (l + 1) := by
    by_cases c1 : o (i + 1) + d ≤ o (l + 1) ∧ o (i + 1) ≤ s + d
    · exfalso
      refine h.hT l i hl hin hf (o i + d - o l) (by omega) (by omega) hbord fun k hk => ?_
      have r1 := h.reads l (o i + d - o l + k) hl (by omega)
      have r2 := h.reads i k hin hk
      have r3 := h.sq (o i + k - s) (by omega)
      exact eqW r1 r2 r3.symm (by omega) (by omega)
    · by_cases c2 : o (l + 1) ≤ o (i + 1) + d ∧ o (l + 1) ≤ s + 2 * d
      · exact absurd (h.over2 hl hin (o i) (o (l + 1) - d - o i) (by omega) rfl (by omega) (by omega) (by omega) (by omega) (by omega)) hf
      · omega
  have hL : o (l - 1) < s + d ∧ o (i - 1) < s := by
    by_cases c1 : o (i - 1) + d ≤ o (l - 1) ∧ s + d ≤ o (l - 1)
    · exfalso
      refine h.hU l (l - 1) hl (by omega) (Ne.symm hg') (o i + d - o l) (by omega) (by omega) hbord fun k hk => ?_
      have r1 := h.reads (i - 1) (len (a (i - 1)) - (o i + d - o l) - len (a (l - 1)) + k) (by omega) (by omega)
      have r2 := h.reads (l - 1) k (by omega) hk
      have r3 := h.sq (o (l - 1) - d + k - s) (by omega)
      rw [hE] at r1
      exact eqW r1 r2 r3 (by omega) (by omega)
    · by_cases c2 : o (l - 1) ≤ o (i - 1) + d ∧ s ≤ o (i - 1)
      · refine absurd (h.over2 (i := l - 1) (l := i - 1) (by omega) (by omega) (o (i - 1)) (o l - d - o (i - 1)) (by omega) rfl ?_ (by omega) (by omega) (by omega) ?_) (by rw [hE]; exact hg')
        · rw [show l - 1 + 1 = l by omega]; omega
        · rw [show i - 1 + 1 = i by omega]; omega
      · omega
  have h1 : l - 1 < i + 1 := h.lt_of (by omega) (by omega)
  have h2 : ¬ l + 1 < n := fun h1 => by
    have := h.le (show l + 1 ≤ n - 1 by omega) (by omega)
    have := h.right
    omega
  have h3 : ¬ 1 < i := fun h1 => by
    have := h.le (show 1 ≤ i - 1 by omega) (by omega)
    have := h.left
    omega
  omega

/-- Boundaries that lie alike go on alike, to the right. -/
theorem syncR (h : Laid n a len ch o W s d) : ∀ (f i l : Nat), n - l ≤ f → 1 ≤ i → i < n → l < n → o l = o i + d → o i < s + d →
    ∃ t, (∀ k, k < t → a (i + k) = a (l + k)) ∧ o (l + t) = o (i + t) + d ∧ ((o (i + t) < s + d ∧ s + d < o (i + t + 1) ∧ l + t + 1 = n) ∨ (o (i + t) = s + d ∧ l + t = n)) := by
  intro f
  induction f with
  | zero => intro i l hf _ _ hl; omega
  | succ f ih =>
    intro i l hf hi1 hin hl he hi
    have hil : i < l := h.lt_of (by omega) (by have := h.d1; omega)
    have hsi : s < o i := Nat.lt_of_lt_of_le h.left (h.le hi1 (by omega))
    have e1 := h.os i hin
    have e2 := h.os l hl
    have p1 := h.pos i hin
    have p2 := h.pos l hl
    have hfit := h.fit
    have hend : s + 2 * d ≤ o (l + 1) → l + 1 = n := fun h1 => by
      rcases Nat.lt_or_ge (l + 1) n with h2 | h2
      · have := h.le (show l + 1 ≤ n - 1 by omega) (by omega)
        have := h.right
        omega
      · omega
    by_cases hX : s + d < o (i + 1)
    · have hY : s + 2 * d < o (l + 1) := by
        rcases Nat.lt_or_ge (s + 2 * d) (o (l + 1)) with h1 | h1
        · exact h1
        · exfalso
          have := h.over2 hl hin (o i) (o (l + 1) - o l) (by omega) rfl (by omega) (by omega) (by omega) (by omega) (by omega)
          rw [this] at e2
          omega
      exact ⟨0, fun k hk => absurd hk (Nat.not_lt_zero _), he, .inl ⟨hi, hX, hend (by omega)⟩⟩
    · have hE : a i = a l := by
        rcases Nat.le_total (o (l + 1)) (o (i + 1) + d) with h1 | h1
        · exact (h.over2 hl hin (o i) (o (l + 1) - o l) (by omega) rfl (by omega) (by omega) (by omega) (by omega) (by omega)).symm
        · exact h.over1 hin hl (o i) (o (i + 1) - o i) (by omega) (by omega) (by omega) (by omega) (by omega) (by omega) (by omega)
      have hY : o (l + 1) = o (i + 1) + d := by rw [e1, e2, hE]; omega
      rcases Nat.lt_or_ge (o (i + 1)) (s + d) with h1 | h1
      · have hln : l + 1 < n := by
          rcases Nat.lt_or_ge (l + 1) n with h2 | h2
          · exact h2
          · rw [show n = l + 1 by omega] at hfit; omega
        obtain ⟨t, g1, g2, g3⟩ := ih (i + 1) (l + 1) (by omega) (by omega) (by omega) hln hY h1
        refine ⟨t + 1, fun k hk => ?_, by rw [show l + (t + 1) = l + 1 + t by omega, show i + (t + 1) = i + 1 + t by omega]; exact g2, ?_⟩
        · cases k with
          | zero => exact hE
          | succ k => rw [show i + (k + 1) = i + 1 + k by omega, show l + (k + 1) = l + 1 + k by omega]; exact g1 k (by omega)
        · rw [show l + (t + 1) = l + 1 + t by omega, show i + (t + 1) = i + 1 + t by omega]; exact g3
      · exact ⟨1, fun k hk => by rw [show k = 0 by omega]; exact hE, hY, .inr ⟨by omega, hend (by omega)⟩⟩

/-- .. and to the left. -/
theorem syncL (h : Laid n a len ch o W s d) : ∀ (i l : Nat), 1 ≤ i → i < n → l < n → o l = o i + d → o i < s + d →
    ∃ t, t ≤ i ∧ (∀ k, k < t → a (i - 1 - k) = a (l - 1 - k)) ∧ o (l - t) = o (i - t) + d ∧ ((o (l - t - 1) < s + d ∧ s + d < o (l - t) ∧ i = t + 1) ∨ (o (l - t) = s + d ∧ i = t)) := by
  intro i
  induction i with
  | zero => intro l h1; omega
  | succ i ih =>
    intro l _ hin hl he hi
    have hil : i + 1 < l := h.lt_of (by omega) (by have := h.d1; omega)
    have hsi : s < o (i + 1) := Nat.lt_of_lt_of_le h.left (h.le (by omega) (by omega))
    have e1 := h.os i (by omega)
    have e2 := h.os (l - 1) (by omega)
    rw [show l - 1 + 1 = l by omega] at e2
    have p1 := h.pos i (by omega)
    have p2 := h.pos (l - 1) (by omega)
    have hend : o i ≤ s → i = 0 := fun h1 => by
      rcases Nat.eq_zero_or_pos i with h2 | h2
      · exact h2
      · have := h.le (show 1 ≤ i by omega) (by omega)
        have := h.left
        omega
    by_cases hY : o (l - 1) < s + d
    · have hX : o i < s := by
        rcases Nat.lt_or_ge (o i) s with h1 | h1
        · exact h1
        · exfalso
          have := h.over2 (i := l - 1) (l := i) (by omega) (by omega) (o i) (o (i + 1) - o i) (by omega) rfl (by rw [show l - 1 + 1 = l by omega]; omega) (by omega) (by omega) (by omega) (by omega)
          rw [this] at e2
          omega
      refine ⟨0, Nat.zero_le _, fun k hk => absurd hk (Nat.not_lt_zero _), he, .inl ⟨hY, ?_, ?_⟩⟩
      · rw [Nat.sub_zero]; omega
      · have := hend (by omega); omega
    · have hE : a i = a (l - 1) := by
        rcases Nat.lt_or_ge (o i + d) (o (l - 1)) with h1 | h1
        · exact h.over1 (i := i) (l := l - 1) (by omega) (by omega) (o (l - 1) - d) (o l - o (l - 1)) (by omega) (by omega) (by omega) (by omega) (by omega) (by omega) (by rw [show l - 1 + 1 = l by omega]; omega)
        · exact (h.over2 (i := l - 1) (l := i) (by omega) (by omega) (o i) (o (i + 1) - o i) (by omega) rfl (by rw [show l - 1 + 1 = l by omega]; omega) (by omega) (by omega) (by omega) (by omega)).symm
      rw [← hE] at e2
      have hYX : o (l - 1) = o i + d := by omega
      rcases Nat.lt_or_ge (s + d) (o (l - 1)) with h1 | h1
      · have hi1 : 1 ≤ i := by
          rcases Nat.eq_zero_or_pos i with h2 | h2
          · subst h2; have := h.o0; omega
          · exact h2
        obtain ⟨t, g0, g1, g2, g3⟩ := ih (l - 1) hi1 (by omega) (by omega) hYX (by omega)
        refine ⟨t + 1, by omega, fun k hk => ?_, by rw [show l - (t + 1) = l - 1 - t by omega, show i + 1 - (t + 1) = i - t by omega]; exact g2, ?_⟩
        · cases k with
          | zero => exact hE
          | succ k => rw [show i + 1 - 1 - (k + 1) = i - 1 - k by omega, show l - 1 - (k + 1) = l - 1 - 1 - k by omega]; exact g1 k (by omega)
        · rw [show l - (t + 1) = l - 1 - t by omega]
          rcases g3 with ⟨a1, a2, a3⟩ | ⟨a1, a2⟩
          · exact .inl ⟨a1, a2, by omega⟩
          · exact .inr ⟨a1, by omega⟩
      · refine ⟨1, by omega, fun k hk => by rw [show k = 0 by omega]; exact hE, hYX, .inr ⟨by omega, ?_⟩⟩
        have := hend (by omega); omega

/-- No boundaries lie alike. -/
theorem sync (h : Laid n a len ch o W s d) {i l : Nat} (hi1 : 1 ≤ i) (hin : i < n) (hl : l < n) (he : o l = o i + d) : False := by
  have hl2 : o l < s + 2 * d := Nat.lt_of_le_of_lt (h.le (show l ≤ n - 1 by omega) (by omega)) h.right
  have hi : o i < s + d := by omega
  have hil : i < l := h.lt_of (by omega) (by have := h.d1; omega)
  obtain ⟨t, g1, g2, g3⟩ := h.syncR n i l (by omega) hi1 hin hl he hi
  obtain ⟨u, f0, f1, f2, f3⟩ := h.syncL i l hi1 hin hl he hi
  have hall : ∀ m, i - u ≤ m → m < i + t → a m = a (m + (l - i)) := fun m h1 h2 => by
    rcases Nat.lt_or_ge m i with h3 | h3
    · have := f1 (i - 1 - m) (by omega)
      rw [show i - 1 - (i - 1 - m) = m by omega, show l - 1 - (i - 1 - m) = m + (l - i) by omega] at this
      exact this
    · have := g1 (m - i) (by omega)
      rw [show i + (m - i) = m by omega, show l + (m - i) = m + (l - i) by omega] at this
      exact this
  rcases g3 with ⟨b1, b2, b3⟩ | ⟨b1, b2⟩
  · rcases f3 with ⟨c1, c2, c3⟩ | ⟨c1, c2⟩
    · have k1 : l - u - 1 < i + t + 1 := h.lt_of (by omega) (by omega)
      have k2 : i + t < l - u := h.lt_of (by omega) (by omega)
      have hj : l - i = i + t := by omega
      have hn : n = 2 * (l - i) + 1 := by omega
      have m1 : a 0 ≠ a (l - i) := fun e => h.sf 0 (l - i) (by omega) (by omega) fun k hk => by
        rcases Nat.eq_zero_or_pos k with rfl | h4
        · simpa using e
        · have := hall k (by omega) (by omega)
          rw [show 0 + k = k by omega, show 0 + (l - i) + k = k + (l - i) by omega]; exact this
      have m2 : a (l - i) ≠ a (2 * (l - i)) := fun e => h.sf 1 (l - i) (by omega) (by omega) fun k hk => by
        rcases Nat.lt_or_ge (1 + k) (l - i) with h4 | h4
        · have := hall (1 + k) (by omega) (by omega)
          rw [show 1 + (l - i) + k = 1 + k + (l - i) by omega]; exact this
        · rw [show 1 + k = l - i by omega, show 1 + (l - i) + k = 2 * (l - i) by omega]; exact e
      have q1 := h.os 0 (by omega)
      have q2 := h.os (l - i) (by omega)
      have q3 := h.os (2 * (l - i)) (by omega)
      have q0 := h.o0
      have hj1 := h.le (show 1 ≤ l - i by omega) (by omega)
      have hleft := h.left
      have hfit := h.fit
      rw [show l - u = l - i + 1 by omega, show i - u = 1 by omega] at f2
      rw [show l + t = 2 * (l - i) by omega, show i + t = l - i by omega] at g2
      rw [← hj] at b1 b2
      rw [hn] at hfit
      simp only [Nat.zero_add] at q1
      refine h.h3 0 (l - i) (2 * (l - i)) (by omega) (by omega) (by omega) m1 m2 (o 1 - s) (by omega) (by omega) (by omega) (by omega) (fun k hk => ?_) (fun k hk => ?_)
      · have r1 := h.reads 0 (len (a 0) - (o 1 - s) + k) (by omega) (by omega)
        have r2 := h.reads (l - i) (len (a (l - i)) - (o 1 - s) + k) (by omega) (by omega)
        have r3 := h.sq k (by omega)
        exact eqW r1 r2 r3 (by omega) (by omega)
      · have r1 := h.reads (l - i) k (by omega) (by omega)
        have r2 := h.reads (2 * (l - i)) k (by omega) (by omega)
        have hsj : s < o (l - i) := Nat.lt_of_lt_of_le h.left (h.le (by omega) (by omega))
        have r3 := h.sq (o (l - i) + k - s) (by omega)
        exact eqW r1 r2 r3 (by omega) (by omega)
    · have k2 : i + t < l - u := h.lt_of (by omega) (by omega)
      have k3 : l - u < i + t + 1 := h.lt_of (by omega) (by omega)
      omega
  · rcases f3 with ⟨c1, c2, c3⟩ | ⟨c1, c2⟩
    · have k2 : i + t < l - u := h.lt_of (by omega) (by omega)
      have k3 : l - u - 1 < i + t := h.lt_of (by omega) (by omega)
      omega
    · have k2 : ¬ i + t < l - u := fun k => by have := h.lt k (by omega); omega
      have k3 : ¬ l - u < i + t := fun k => by have := h.lt k (by omega); omega
      refine h.sf 0 (l - i) (by omega) (by omega) fun k hk => ?_
      have := hall k (by omega) (by omega)
      rw [show 0 + k = k by omega, show 0 + (l - i) + k = k + (l - i) by omega]; exact this

/-- There are not boundaries in both halves. -/
theorem halves (h : Laid n a len ch o W s d) (hn : 4 ≤ n) : ∀ (g i l : Nat), 1 ≤ i → i < n → o i < s + d → s + d < o l → l < n → o l ≤ o i + d + g → o i + d ≤ o l + g → False := by
  intro g
  induction g with
  | zero => intro i l hi1 hin hi hl1 hl h1 h2; exact h.sync hi1 hin hl (by omega)
  | succ g ih =>
    intro i l hi1 hin hi hl1 hl h1 h2
    have hil : i < l := h.lt_of (by omega) (by omega)
    have hsi : s < o i := Nat.lt_of_lt_of_le h.left (h.le hi1 (by omega))
    have hl2 : o l < s + 2 * d := Nat.lt_of_le_of_lt (h.le (show l ≤ n - 1 by omega) (by omega)) h.right
    have p1 := h.lt (show i < i + 1 by omega) (by omega)
    have p2 := h.lt (show l - 1 < l by omega) (by omega)
    have p3 := h.lt (show i - 1 < i by omega) (by omega)
    have p4 := h.lt (show l < l + 1 by omega) (by omega)
    have hfit := h.fit
    rcases Nat.lt_trichotomy (o i + d) (o l) with hg | hg | hg
    · by_cases c1 : o (i + 1) + d ≤ o l
      · exact ih (i + 1) l (by omega) (by omega) (by omega) hl1 hl (by omega) (by omega)
      · by_cases c2 : o i + d ≤ o (l - 1)
        · exact ih i (l - 1) hi1 hin hi (by omega) (by omega) (by omega) (by omega)
        · exact h.alt12 hn hi1 hin hi hl1 hl hg (by omega) (by omega)
    · exact h.sync hi1 hin hl hg.symm
    · by_cases c1 : i ≠ 1 ∧ o l ≤ o (i - 1) + d
      · exact ih (i - 1) l (by omega) (by omega) (by omega) hl1 hl (by omega) (by omega)
      · by_cases c2 : o (l + 1) ≤ o i + d
        · have hln : l + 1 < n := by
            rcases Nat.lt_or_ge (l + 1) n with h3 | h3
            · exact h3
            · rw [show n = l + 1 by omega] at hfit; omega
          exact ih i (l + 1) hi1 hin hi (by omega) hln (by omega) (by omega)
        · exact h.alt21 hn hi1 hin hi hl1 hl hg (by omega) (by omega)

/-- **The first or the last image is long.** -/
theorem long (h : Laid n a len ch o W s d) (hn : 4 ≤ n) : (o (n - 1) - o 1) + 4 ≤ len (a 0) ∨ (o (n - 1) - o 1) + 4 ≤ len (a (n - 1)) := by
  have q0 := h.o0
  have q1 := h.os 0 (by omega)
  have q2 := h.os 1 (by omega)
  have q3 := h.os (n - 1) (by omega)
  have q4 := h.os (n - 2) (by omega)
  simp only [Nat.zero_add, show 1 + 1 = 2 from rfl] at q1 q2
  rw [show n - 1 + 1 = n by omega] at q3
  rw [show n - 2 + 1 = n - 1 by omega] at q4
  have hleft := h.left
  have hright := h.right
  have hfit := h.fit
  have hd := h.d1
  have m1 := h.le (show 2 ≤ n - 1 by omega) (by omega)
  have m2 := h.le (show 1 ≤ n - 2 by omega) (by omega)
  have n1 := h.ne 0 (by omega)
  have n2 := h.ne (n - 2) (by omega)
  rw [show n - 2 + 1 = n - 1 by omega] at n2
  simp only [Nat.zero_add] at n1
  rcases Nat.lt_or_ge (o 1) (s + d) with c1 | c1
  · rcases Nat.lt_or_ge (s + d) (o (n - 1)) with c2 | c2
    · exact (h.halves hn (o (n - 1) + o 1 + d) 1 (n - 1) (by omega) (by omega) c1 c2 (by omega) (by omega) (by omega)).elim
    · right
      rcases Nat.lt_or_ge (o (n - 1)) (s + d) with c3 | c3
      · rcases Nat.lt_or_ge (s + 2 * d) (o n) with c4 | c4
        · omega
        · exfalso
          refine h.hU (n - 1) (n - 2) (by omega) (by omega) (Ne.symm n2) (s + d - o (n - 1)) (by omega) (by omega) (fun k hk => ?_) (fun k hk => ?_)
          · have r1 := h.reads (n - 1) (len (a (n - 1)) - (s + d - o (n - 1)) + k) (by omega) (by omega)
            have r2 := h.reads (n - 1) k (by omega) (by omega)
            have r3 := h.sq (o (n - 1) + k - s) (by omega)
            exact eqW r1 r2 r3.symm (by omega) (by omega)
          · have r1 := h.reads (n - 1) (len (a (n - 1)) - (s + d - o (n - 1)) - len (a (n - 2)) + k) (by omega) (by omega)
            have r2 := h.reads (n - 2) k (by omega) (by omega)
            have r3 := h.sq (o (n - 2) + k - s) (by omega)
            exact eqW r1 r2 r3.symm (by omega) (by omega)
      · exfalso
        have hE : a 0 = a (n - 1) := h.over1 (by omega) (by omega) s (o 1 - s) (by omega) (by omega) (by simp only [Nat.zero_add]; omega) (by omega) (by omega) (by omega) (by rw [show n - 1 + 1 = n by omega]; omega)
        have hlen : len (a 0) = len (a (n - 1)) := by rw [hE]
        refine h.hT (n - 1) 1 (by omega) (by omega) (by rw [← hE]; exact n1) (o 1 - s) (by omega) (by omega) (fun k hk => ?_) (fun k hk => ?_)
        · have r1 := h.reads 0 (len (a 0) - (o 1 - s) + k) (by omega) (by omega)
          have r2 := h.reads (n - 1) k (by omega) (by omega)
          have r3 := h.sq k (by omega)
          rw [hE] at r1
          exact eqW r1 r2 r3 (by omega) (by omega)
        · have r1 := h.reads (n - 1) (o 1 - s + k) (by omega) (by omega)
          have r2 := h.reads 1 k (by omega) (by omega)
          have r3 := h.sq (o 1 + k - s) (by omega)
          exact eqW r1 r2 r3.symm (by omega) (by omega)
  · left
    rcases Nat.lt_or_ge (s + d) (o 1) with c3 | c3
    · rcases Nat.eq_zero_or_pos s with c4 | c4
      · exfalso
        refine h.hT 0 1 (by omega) (by omega) n1 (o 1 - s - d) (by omega) (by omega) (fun k hk => ?_) (fun k hk => ?_)
        · have r1 := h.reads 0 (len (a 0) - (o 1 - s - d) + k) (by omega) (by omega)
          have r2 := h.reads 0 k (by omega) (by omega)
          have r3 := h.sq k (by omega)
          exact eqW r1 r2 r3.symm (by omega) (by omega)
        · have r1 := h.reads 0 (o 1 - s - d + k) (by omega) (by omega)
          have r2 := h.reads 1 k (by omega) (by omega)
          have r3 := h.sq (o 1 - d + k - s) (by omega)
          exact eqW r1 r2 r3 (by omega) (by omega)
      · omega
    · exfalso
      have hE : a 0 = a (n - 1) := h.over1 (by omega) (by omega) (o (n - 1) - d) (s + 2 * d - o (n - 1)) (by omega) (by omega) (by simp only [Nat.zero_add]; omega) (by omega) (by omega) (by omega) (by rw [show n - 1 + 1 = n by omega]; omega)
      have hlen : len (a 0) = len (a (n - 1)) := by rw [hE]
      refine h.hU 0 (n - 2) (by omega) (by omega) (by rw [hE]; exact Ne.symm n2) (s + 2 * d - o (n - 1)) (by omega) (by omega) (fun k hk => ?_) (fun k hk => ?_)
      · have r1 := h.reads 0 (len (a 0) - (s + 2 * d - o (n - 1)) + k) (by omega) (by omega)
        have r2 := h.reads (n - 1) k (by omega) (by omega)
        have r3 := h.sq (o (n - 1) - d + k - s) (by omega)
        rw [← hE] at r2
        exact eqW r1 r2 r3 (by omega) (by omega)
      · have r1 := h.reads 0 (len (a 0) - (s + 2 * d - o (n - 1)) - len (a (n - 2)) + k) (by omega) (by omega)
        have r2 := h.reads (n - 2) k (by omega) (by omega)
        have r3 := h.sq (o (n - 2) - d + k - s) (by omega)
        exact eqW r1 r2 r3 (by omega) (by omega)
end Laid
end Go.Proofs.Ytancficmkkdnfaa
