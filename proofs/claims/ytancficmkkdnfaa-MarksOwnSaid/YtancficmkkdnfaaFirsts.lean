/-
  The first square-free words. No program.
-/
import Derived.Test.YtancficmkkdnfaaLevels
namespace Go.Proofs.Ytancficmkkdnfaa

theorem less_app (l a b : List UInt8) : Op.bytesLess (l ++ a) (l ++ b) = Op.bytesLess a b := by
  induction l with
  | nil => rfl
  | cons c l ih => rw [List.cons_append, List.cons_append, Op.bytesLess, ih]; simp
theorem less_letter (l : List UInt8) (c c' : Nat) (h : c < c') (hc : c' ≤ 20) (r r' : List UInt8) : Op.bytesLess (addL l c ++ r) (addL l c' ++ r') = true := by
  rw [addL, addL, List.append_assoc, List.append_assoc, less_app]
  have : UInt8.ofNat (97 + c) < UInt8.ofNat (97 + c') := by
    rw [UInt8.lt_iff_toNat_lt, UInt8.toNat_ofNat', UInt8.toNat_ofNat', Nat.mod_eq_of_lt (by omega), Nat.mod_eq_of_lt (by omega)]; omega
  rw [List.singleton_append, List.singleton_append, Op.bytesLess, decide_eq_true this]; rfl
theorem frW_app (k : Nat) : ∀ (m : Nat) (l x : List UInt8), x ∈ frW k m l → ∃ r, x = l ++ r := by
  intro m
  induction m with
  | zero => intro l x h; simp [frW] at h; exact ⟨[], by simp [h]⟩
  | succ m ih =>
    intro l x h
    rw [frW, List.mem_flatMap] at h
    obtain ⟨c, _, h⟩ := h
    split at h
    · exact absurd h (by simp)
    · obtain ⟨r, hr⟩ := ih _ _ h
      exact ⟨UInt8.ofNat (97 + c) :: r, by rw [hr, addL]; simp⟩
theorem frC_mem (k m : Nat) (l x : List UInt8) (c : Nat) (h : x ∈ frC k m l c) : ∃ c' r, c ≤ c' ∧ c' < k ∧ x = addL l c' ++ r := by
  rw [frC, List.mem_flatMap] at h
  obtain ⟨c', hc, h⟩ := h
  obtain ⟨i, hi, he⟩ := List.mem_drop_iff_getElem.1 hc
  rw [List.getElem_range] at he
  simp at hi
  split at h
  · exact absurd h (by simp)
  · obtain ⟨r, hr⟩ := frW_app k m _ _ h
    exact ⟨c', r, by omega, by omega, hr⟩
theorem head_min (k : Nat) (hk : k ≤ 20) : ∀ (m : Nat) (l t x : List UInt8), (frW k m l).head? = some t → x ∈ frW k m l → t = x ∨ Op.bytesLess t x = true := by
  intro m
  induction m with
  | zero => intro l t x h1 h2; simp [frW] at h1 h2; exact .inl (by rw [← h1, h2])
  | succ m ih =>
    intro l t x
    rw [← frC_zero]
    suffices H : ∀ (n c : Nat), k - c ≤ n → ∀ t x, (frC k m l c).head? = some t → x ∈ frC k m l c → t = x ∨ Op.bytesLess t x = true from H k 0 (by omega) t x
    intro n
    induction n with
    | zero => intro c hc t x h1; rw [frC_end k m l c (by omega)] at h1; exact nomatch h1
    | succ n ihn =>
      intro c hc t x h1 h2
      rcases Nat.lt_or_ge c k with hlt | hge
      · rw [frC_step k m l c hlt] at h1 h2
        by_cases he : endsB (addL l c) = true
        · rw [if_pos he, List.nil_append] at h1 h2
          exact ihn (c + 1) (by omega) t x h1 h2
        · rw [if_neg he] at h1 h2
          cases hf : frW k m (addL l c) with
          | nil => rw [hf, List.nil_append] at h1 h2; exact ihn (c + 1) (by omega) t x h1 h2
          | cons y ys =>
            rw [hf] at h1
            have hty : y = t := by simpa using h1
            subst hty
            rcases List.mem_append.1 h2 with h3 | h3
            · exact ih (addL l c) y x (by rw [hf]; rfl) h3
            · obtain ⟨c', r, g1, g2, rfl⟩ := frC_mem k m l x (c + 1) h3
              obtain ⟨r', hr'⟩ := frW_app k m (addL l c) y (by rw [hf]; simp)
              right
              rw [hr']
              exact less_letter l c c' (by omega) (by omega) _ _
      · rw [frC_end k m l c hge] at h1; exact nomatch h1
/-- The beginning of a word is a word. -/
theorem take_mem (k n n' : Nat) (hk : k ≤ 20) (h : n' ≤ n) (x : List UInt8) (hx : x ∈ frW k n []) : x.take n' ∈ frW k n' [] := by
  obtain ⟨r, h1, h2, h3, h4⟩ := (mem_frW k hk n [] x rfl rfl).1 hx
  rw [List.nil_append] at h2
  subst h2
  exact (mem_frW k hk n' [] _ rfl rfl).2 ⟨x.take n', by rw [List.length_take]; omega, rfl, overB_take h3 n', free_take h4 n'⟩
end Go.Proofs.Ytancficmkkdnfaa
