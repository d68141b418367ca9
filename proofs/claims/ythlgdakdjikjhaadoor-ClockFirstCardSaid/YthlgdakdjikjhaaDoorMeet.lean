/-
  States that words lead together: plain facts. No program.
-/
import Derived.Test.YthlgdakdjikjhaaDoorImg
import Derived.Test.YthlgdakdjikjhaaDoorR
namespace Go.Proofs.YthlgdakdjikjhaaDoor

/-- What the first wanted image is like. -/
theorem firstE_word {M : List (List Nat)} (hM : OkM M) {s : Nat} (hs : s < 2 ^ nst M) {wt : Nat → Bool} {x : Ent} (h : firstE M s wt = some x) : x.word.all (letB M.length) = true ∧ imgW M s x.word = x.set ∧ wt x.set = true ∧ x.word.length ≤ 511 := by
  have hx := List.mem_of_find?_eq_some h
  have hw : wt x.set = true := by have := List.find?_some h; exact this
  obtain ⟨j, hj, he⟩ := List.getElem_of_mem hx
  have hg := reach_good hM hs
  have he2 : (reach M s)[j]? = some x := by rw [List.getElem?_eq_getElem hj, he]
  obtain ⟨k1, k2⟩ := hg.word hM.b4 j x he2
  have := hg.wlen j x he2
  have := hg.len hM
  exact ⟨k1, k2, hw, by omega⟩
theorem firstE_some {M : List (List Nat)} (hM : OkM M) {s : Nat} (hs : s < 2 ^ nst M) {wt : Nat → Bool} {l : List UInt8} (hl : l.all (letB M.length) = true) (h : wt (imgW M s l) = true) : (firstE M s wt).isSome = true := by
  obtain ⟨y, hy, he⟩ := reach_all hM hs l hl
  unfold firstE
  rw [List.find?_isSome]
  exact ⟨y, hy, by rw [he]; exact h⟩
theorem pairN_bit (p q t : Nat) : (pairN p q).testBit t = true ↔ t = p ∨ t = q := by
  unfold pairN
  rw [Nat.testBit_or, Bool.or_eq_true, Nat.testBit_two_pow, Nat.testBit_two_pow]
  simp only [decide_eq_true_eq]
  constructor
  · rintro (h | h)
    · exact .inl h.symm
    · exact .inr h.symm
  · rintro (h | h)
    · exact .inl h.symm
    · exact .inr h.symm
theorem pairN_comm (p q : Nat) : pairN p q = pairN q p := Nat.or_comm ..
theorem sizeN_pow : ∀ p : Nat, p < 9 → sizeN (2 ^ p) = 1 := by decide
theorem pair_self {M : List (List Nat)} (hM : OkM M) {p : Nat} (hp : p < nst M) : firstE M (pairN p p) oneB = some ⟨pairN p p, [], 0, 0⟩ := by
  have hh := (reach_good hM (pairN_lt hp hp)).head
  have h1 : oneB (pairN p p) = true := by
    unfold oneB pairN
    rw [Nat.or_self, sizeN_pow p (by have := hM.n9; omega)]; rfl
  unfold firstE
  cases hr : reach M (pairN p p) with
  | nil => rw [hr] at hh; cases hh
  | cons e L =>
    rw [hr] at hh
    simp only [List.getElem?_cons_zero, Option.some.injEq] at hh
    subst hh
    simp only [List.find?_cons, h1]
theorem allS_bit {M : List (List Nat)} (q : Nat) : (allS M).testBit q = true ↔ q < nst M := by
  unfold allS; rw [Nat.testBit_two_pow_sub_one]; simp
theorem ne_zero_bit {s q : Nat} (h : s.testBit q = true) : s ≠ 0 := fun e => by subst e; simp at h
theorem bit_of_ne {s : Nat} (h : s ≠ 0) : ∃ q, s.testBit q = true := Nat.exists_testBit_of_ne_zero h
theorem imgW_ne {M : List (List Nat)} (hM : OkM M) {l : List UInt8} {s : Nat} (hl : l.all (letB M.length) = true) (hs : s < 2 ^ nst M) (h0 : s ≠ 0) : imgW M s l ≠ 0 := by
  obtain ⟨q, hq⟩ := bit_of_ne h0
  exact ne_zero_bit ((imgW_bit hM l s (tr M q l) hl hs).2 ⟨q, hq, rfl⟩)
theorem size_one {M : List (List Nat)} (hM : OkM M) {s p q : Nat} (hs : s < 2 ^ nst M) (h : sizeN s = 1) (hp : s.testBit p = true) (hq : s.testBit q = true) : p = q := by
  have h1 := (listN_bit hM hs p).2 hp
  have h2 := (listN_bit hM hs q).2 hq
  obtain ⟨x, hx⟩ := List.length_eq_one_iff.1 h
  rw [hx, List.mem_singleton] at h1 h2
  rw [h1, h2]
/-- A word leads two states together exactly if it leads their set to one state. -/
theorem meet_iff {M : List (List Nat)} (hM : OkM M) {l : List UInt8} {p q : Nat} (hl : l.all (letB M.length) = true) (hp : p < nst M) (hq : q < nst M) (h : sizeN (imgW M (pairN p q) l) = 1) : tr M p l = tr M q l := by
  have hs := pairN_lt hp hq
  exact size_one hM (imgW_lt hM l _ hs) h ((imgW_bit hM l _ _ hl hs).2 ⟨p, (pairN_bit p q p).2 (.inl rfl), rfl⟩) ((imgW_bit hM l _ _ hl hs).2 ⟨q, (pairN_bit p q q).2 (.inr rfl), rfl⟩)
theorem merge_all {M : List (List Nat)} (hM : OkM M) (H : ∀ p q, q ≤ p → p < nst M → (firstE M (pairN p q) oneB).isSome = true) : ∀ (k s : Nat), s < 2 ^ nst M → s ≠ 0 → sizeN s ≤ k → ∃ l : List UInt8, l.all (letB M.length) = true ∧ sizeN (imgW M s l) = 1 := by
  intro k
  induction k with
  | zero =>
    intro s hs h0 h
    have := sizeN_pos s (lt512 hM hs) h0
    omega
  | succ k ih =>
    intro s hs h0 h
    have hp1 := sizeN_pos s (lt512 hM hs) h0
    by_cases h1 : sizeN s = 1
    · exact ⟨[], rfl, h1⟩
    · obtain ⟨a, b, L, hL⟩ : ∃ a b L, listN s = a :: b :: L := by
        unfold sizeN at h1 hp1
        match hc : listN s with
        | [] => rw [hc] at hp1; simp at hp1
        | [x] => rw [hc] at h1; simp at h1
        | a :: b :: L => exact ⟨a, b, L, rfl⟩
      have hn := listN_nodup s
      rw [hL] at hn
      have hab : a ≠ b := fun e => (List.nodup_cons.1 hn).1 (by rw [e]; exact List.mem_cons_self ..)
      have ha := (listN_bit hM hs a).1 (by rw [hL]; exact List.mem_cons_self ..)
      have hb := (listN_bit hM hs b).1 (by rw [hL]; exact List.mem_cons_of_mem _ (List.mem_cons_self ..))
      have ha' := bit_lt hs ha
      have hb' := bit_lt hs hb
      have hsome : (firstE M (pairN a b) oneB).isSome = true := by
        rcases Nat.le_total b a with h2 | h2
        · exact H a b h2 ha'
        · rw [pairN_comm]; exact H b a h2 hb'
      obtain ⟨x, hx⟩ := Option.isSome_iff_exists.1 hsome
      obtain ⟨w1, w2, w3, -⟩ := firstE_word hM (pairN_lt ha' hb') hx
      have hm := meet_iff hM w1 ha' hb' (by rw [w2]; simpa [oneB] using w3)
      have hlt := sizeN_meet hM w1 hs ha hb hab hm
      obtain ⟨l, hl, hl2⟩ := ih (imgW M s x.word) (imgW_lt hM _ _ hs) (imgW_ne hM w1 hs h0) (by omega)
      exact ⟨x.word ++ l, by rw [List.all_append, w1, hl]; rfl, by rw [imgW_app]; exact hl2⟩
/-- A machine can be reset exactly if every two states can be led together. -/
theorem reset_iff {M : List (List Nat)} (hM : OkM M) : (∀ p q, q ≤ p → p < nst M → (firstE M (pairN p q) oneB).isSome = true) ↔ (firstE M (allS M) oneB).isSome = true := by
  constructor
  · intro H
    obtain ⟨l, hl, h1⟩ := merge_all hM H (sizeN (allS M)) (allS M) (allS_lt hM) (allS_ne hM) (Nat.le_refl _)
    exact firstE_some hM (allS_lt hM) hl (by simp [oneB, h1])
  · intro H p q hqp hp
    obtain ⟨x, hx⟩ := Option.isSome_iff_exists.1 H
    obtain ⟨w1, w2, w3, -⟩ := firstE_word hM (allS_lt hM) hx
    have hs := pairN_lt (n := nst M) (p := p) (q := q) hp (by omega)
    refine firstE_some hM hs w1 ?_
    have h1 : sizeN (imgW M (pairN p q) x.word) ≤ sizeN (imgW M (allS M) x.word) := sizeN_sub fun t ht => by
      obtain ⟨r, h1, h2⟩ := (imgW_bit hM _ _ t w1 hs).1 ht
      refine (imgW_bit hM _ _ t w1 (allS_lt hM)).2 ⟨r, (allS_bit r).2 ?_, h2⟩
      rcases (pairN_bit p q r).1 h1 with e | e <;> omega
    have h2 := sizeN_pos _ (lt512 hM (imgW_lt hM x.word _ hs)) (imgW_ne hM w1 hs (pairN_ne p q))
    have h3 : sizeN x.set = 1 := by simpa [oneB] using w3
    rw [w2, h3] at h1
    simp only [oneB, beq_iff_eq]
    omega
end Go.Proofs.YthlgdakdjikjhaaDoor
