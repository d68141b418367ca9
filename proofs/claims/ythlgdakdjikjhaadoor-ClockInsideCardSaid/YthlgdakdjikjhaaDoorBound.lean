/-
  The least word that resets a machine has at most (n^3 - n) / 6 buttons. No program.
-/
import Derived.Test.YthlgdakdjikjhaaDoorMeet
import Derived.Test.YthlgdakdjikjhaaDoorLex
import Derived.Test.YthlgdakdjikjhaaDoorLin
namespace Go.Proofs.YthlgdakdjikjhaaDoor

/-- The states that a set lacks. -/
def coN (n s : Nat) : List Nat := (List.range n).filter fun q => !s.testBit q
theorem filter_split (f : Nat → Bool) : ∀ l : List Nat, (l.filter f).length + (l.filter fun q => !f q).length = l.length := by
  intro l
  induction l with
  | nil => rfl
  | cons a r ih =>
    cases h : f a <;> simp [List.filter_cons, h] <;> omega
theorem listN_range {n s : Nat} (h9 : n ≤ 9) (hs : s < 2 ^ n) : sizeN s = ((List.range n).filter s.testBit).length := by
  unfold sizeN listN
  obtain ⟨k, hk⟩ : ∃ k, 9 = n + k := ⟨9 - n, by omega⟩
  rw [hk, List.range_add, List.filter_append, List.length_append]
  have : ((List.range k).map (n + ·)).filter s.testBit = [] := by
    rw [List.filter_eq_nil_iff]
    intro q hq
    obtain ⟨j, -, rfl⟩ := List.mem_map.1 hq
    rw [Nat.testBit_lt_two_pow (Nat.lt_of_lt_of_le hs (Nat.pow_le_pow_right (by omega) (by omega)))]
    simp
  rw [this, List.length_nil, Nat.add_zero]
theorem coN_len {n s : Nat} (h9 : n ≤ 9) (hs : s < 2 ^ n) : (coN n s).length + sizeN s = n := by
  have := filter_split s.testBit (List.range n)
  rw [List.length_range] at this
  rw [listN_range h9 hs]
  unfold coN
  omega
theorem coN_mem {n s q : Nat} (hq : q < n) : q ∈ coN n s ↔ s.testBit q = false := by
  unfold coN
  rw [List.mem_filter, List.mem_range]
  simp [hq]
theorem all_take {l : List UInt8} {f : UInt8 → Bool} (h : l.all f = true) (k : Nat) : (l.take k).all f = true := by
  rw [List.all_eq_true] at h ⊢
  exact fun x hx => h x (List.mem_of_mem_take hx)
theorem all_drop {l : List UInt8} {f : UInt8 → Bool} (h : l.all f = true) (k : Nat) : (l.drop k).all f = true := by
  rw [List.all_eq_true] at h ⊢
  exact fun x hx => h x (List.mem_of_mem_drop hx)
/-- If an image is smaller, two states meet. -/
theorem img_meet {M : List (List Nat)} (hM : OkM M) {s : Nat} {l : List UInt8} (hl : l.all (letB M.length) = true) (hs : s < 2 ^ nst M) (h : sizeN (imgW M s l) < sizeN s) : ∃ p q, s.testBit p = true ∧ s.testBit q = true ∧ p ≠ q ∧ tr M p l = tr M q l := by
  refine Classical.byContradiction fun hn => ?_
  have hinj : ∀ p q, s.testBit p = true → s.testBit q = true → tr M p l = tr M q l → p = q := fun p q hp hq he => Classical.byContradiction fun hne => hn ⟨p, q, hp, hq, hne, he⟩
  have hnd : ((listN s).map fun q => tr M q l).Nodup := by
    refine List.pairwise_map.2 (List.Pairwise.imp_of_mem (fun {p q} hp hq hne he => hne ?_) (listN_nodup s))
    exact hinj p q ((listN_bit hM hs p).1 hp) ((listN_bit hM hs q).1 hq) he
  have := len_sub _ (listN (imgW M s l)) hnd fun t ht => by
    obtain ⟨q, hq, rfl⟩ := List.mem_map.1 ht
    exact (listN_bit hM (imgW_lt hM l s hs) _).2 ((imgW_bit hM l s _ hl hs).2 ⟨q, (listN_bit hM hs q).1 hq, rfl⟩)
  rw [List.length_map] at this
  unfold sizeN at h
  omega
/-- A word that makes a set of k states smaller, of at most (n - k + 1) (n - k + 2) / 2 buttons. -/
theorem compress {M : List (List Nat)} (hM : OkM M) {s : Nat} (hs : s < 2 ^ nst M) (hx : ∃ l : List UInt8, l.all (letB M.length) = true ∧ sizeN (imgW M s l) < sizeN s) :
    ∃ l : List UInt8, l.all (letB M.length) = true ∧ sizeN (imgW M s l) < sizeN s ∧ 2 * l.length ≤ (nst M - sizeN s + 1) * (nst M - sizeN s + 2) := by
  have hmin : ∃ l : List UInt8, (l.all (letB M.length) = true ∧ sizeN (imgW M s l) < sizeN s) ∧ ∀ u : List UInt8, u.all (letB M.length) = true → sizeN (imgW M s u) < sizeN s → l.length ≤ u.length := by
    obtain ⟨l0, h0⟩ := hx
    have : ∀ (k : Nat) (l : List UInt8), l.length ≤ k → l.all (letB M.length) = true ∧ sizeN (imgW M s l) < sizeN s → ∃ l : List UInt8, (l.all (letB M.length) = true ∧ sizeN (imgW M s l) < sizeN s) ∧ ∀ u : List UInt8, u.all (letB M.length) = true → sizeN (imgW M s u) < sizeN s → l.length ≤ u.length := by
      intro k
      induction k with
      | zero => intro l hk h; exact ⟨l, h, fun u _ _ => by omega⟩
      | succ k ih =>
        intro l hk h
        by_cases hb : ∃ u : List UInt8, u.all (letB M.length) = true ∧ sizeN (imgW M s u) < sizeN s ∧ u.length < l.length
        · obtain ⟨u, h1, h2, h3⟩ := hb
          exact ih u (by omega) ⟨h1, h2⟩
        · refine ⟨l, h, fun u h1 h2 => ?_⟩
          rcases Nat.lt_or_ge u.length l.length with h3 | h3
          · exact absurd ⟨u, h1, h2, h3⟩ hb
          · exact h3
    exact this l0.length l0 (Nat.le_refl _) h0
  obtain ⟨l, ⟨hl, hlt⟩, hmn⟩ := hmin
  refine ⟨l, hl, hlt, ?_⟩
  obtain ⟨p, q, hp, hq, hne, hm⟩ := img_meet hM hl hs hlt
  have hsz : ∀ i, i < l.length → sizeN (imgW M s (l.take i)) = sizeN s := fun i hi => by
    have h1 := sizeN_img hM (all_take hl i) hs
    rcases Nat.lt_or_ge (sizeN (imgW M s (l.take i))) (sizeN s) with h2 | h2
    · have := hmn _ (all_take hl i) h2
      rw [List.length_take] at this; omega
    · omega
  have hlen : ∀ i, i < l.length → (coN (nst M) (imgW M s (l.take i))).length = nst M - sizeN s := fun i hi => by
    have := coN_len hM.n9 (imgW_lt hM (l.take i) s hs)
    rw [hsz i hi] at this; omega
  have hin : ∀ r, s.testBit r = true → ∀ i, (imgW M s (l.take i)).testBit (tr M r (l.take i)) = true := fun r hr i =>
    (imgW_bit hM _ _ _ (all_take hl i) hs).2 ⟨r, hr, rfl⟩
  have hlt2 : ∀ r, s.testBit r = true → ∀ i, tr M r (l.take i) < nst M := fun r hr i => bit_lt (imgW_lt hM (l.take i) s hs) (hin r hr i)
  refine skew_pairs (nst M - sizeN s) l.length (fun i => coN (nst M) (imgW M s (l.take i))) (fun i => tr M p (l.take i)) (fun i => tr M q (l.take i)) hlen ?_ ?_
  · intro i j hij hj
    refine Classical.byContradiction fun hno => ?_
    have hno1 : ¬ tr M p (l.take j) ∈ coN (nst M) (imgW M s (l.take i)) := fun h => hno (.inl h)
    have hno2 : ¬ tr M q (l.take j) ∈ coN (nst M) (imgW M s (l.take i)) := fun h => hno (.inr h)
    rw [coN_mem (hlt2 p hp j)] at hno1
    rw [coN_mem (hlt2 q hq j)] at hno2
    have b1 : (imgW M s (l.take i)).testBit (tr M p (l.take j)) = true := by simpa using hno1
    have b2 : (imgW M s (l.take i)).testBit (tr M q (l.take j)) = true := by simpa using hno2
    have hne2 : tr M p (l.take j) ≠ tr M q (l.take j) := fun e => by
      have := sizeN_meet hM (all_take hl j) hs hp hq hne e
      rw [hsz j hj] at this; omega
    have hmt : tr M (tr M p (l.take j)) (l.drop j) = tr M (tr M q (l.take j)) (l.drop j) := by
      rw [← tr_app, ← tr_app, List.take_append_drop]; exact hm
    have h1 := sizeN_meet hM (all_drop hl j) (imgW_lt hM (l.take i) s hs) b1 b2 hne2 hmt
    rw [hsz i (by omega), ← imgW_app] at h1
    have h2 := hmn _ (by rw [List.all_append, all_take hl i, all_drop hl j]; rfl) h1
    rw [List.length_append, List.length_take, List.length_drop] at h2
    omega
  · intro i hi
    refine ⟨fun h => ?_, fun h => ?_⟩
    · rw [coN_mem (hlt2 p hp i), hin p hp i] at h; cases h
    · rw [coN_mem (hlt2 q hq i), hin q hq i] at h; cases h
/-- The sum of the bounds from one state to k. -/
def sumB (n : Nat) : Nat → Nat
  | 0 => 0
  | 1 => 0
  | k + 2 => sumB n (k + 1) + (n - (k + 2) + 1) * (n - (k + 2) + 2)
theorem sumB_mono (n : Nat) : ∀ (d k : Nat), sumB n k ≤ sumB n (k + d) := by
  intro d
  induction d with
  | zero => intro k; exact Nat.le_refl _
  | succ d ih =>
    intro k
    have h1 := ih k
    have h2 : sumB n (k + d) ≤ sumB n (k + d + 1) := by
      rcases Nat.eq_zero_or_pos (k + d) with h | h
      · rw [h]; exact Nat.zero_le _
      · obtain ⟨j, hj⟩ : ∃ j, k + d = j + 1 := ⟨k + d - 1, by omega⟩
        rw [hj]; exact Nat.le_add_right _ _
    exact Nat.le_trans h1 h2
theorem sumB_top : ∀ n : Nat, n < 10 → sumB n n = 2 * ((n * n * n - n) / 6) := by decide
theorem reset_len {M : List (List Nat)} (hM : OkM M) (H : ∀ p q, q ≤ p → p < nst M → (firstE M (pairN p q) oneB).isSome = true) : ∀ (k s : Nat), s < 2 ^ nst M → s ≠ 0 → sizeN s ≤ k →
    ∃ l : List UInt8, l.all (letB M.length) = true ∧ sizeN (imgW M s l) = 1 ∧ 2 * l.length ≤ sumB (nst M) k := by
  intro k
  induction k with
  | zero =>
    intro s hs h0 h
    have := sizeN_pos s (lt512 hM hs) h0
    omega
  | succ k ih =>
    intro s hs h0 h
    have hp1 := sizeN_pos s (lt512 hM hs) h0
    rcases Nat.lt_or_ge (sizeN s) (k + 1) with hk | hk
    · obtain ⟨l, h1, h2, h3⟩ := ih s hs h0 (by omega)
      exact ⟨l, h1, h2, Nat.le_trans h3 (sumB_mono _ 1 k)⟩
    · rcases Nat.eq_zero_or_pos k with h00 | h00
      · subst h00
        exact ⟨[], rfl, by show sizeN s = 1; omega, by simp⟩
      · obtain ⟨j, rfl⟩ : ∃ j, k = j + 1 := ⟨k - 1, by omega⟩
        obtain ⟨l0, a1, a2⟩ := merge_all hM H (sizeN s) s hs h0 (Nat.le_refl _)
        obtain ⟨l, h1, h2, h3⟩ := compress hM hs ⟨l0, a1, by omega⟩
        have hke : sizeN s = j + 2 := by omega
        rw [hke] at h2 h3
        obtain ⟨u, g1, g2, g3⟩ := ih (imgW M s l) (imgW_lt hM l s hs) (imgW_ne hM h1 hs h0) (by omega)
        refine ⟨l ++ u, by rw [List.all_append, h1, g1]; rfl, by rw [imgW_app]; exact g2, ?_⟩
        rw [List.length_append]
        show _ ≤ sumB (nst M) (j + 1) + (nst M - (j + 2) + 1) * (nst M - (j + 2) + 2)
        omega
theorem allS_size {M : List (List Nat)} (hM : OkM M) : sizeN (allS M) = nst M := by
  rw [listN_range hM.n9 (allS_lt hM), List.filter_eq_self.2, List.length_range]
  intro q hq
  exact (allS_bit q).2 (List.mem_range.1 hq)
/-- The word of Reset is short. -/
theorem reset_short {M : List (List Nat)} (hM : OkM M) {x : Ent} (h : firstE M (allS M) oneB = some x) : x.word.length ≤ (nst M * nst M * nst M - nst M) / 6 := by
  obtain ⟨l, h1, h2, h3⟩ := reset_len hM (reset_iff hM |>.2 (by rw [h]; rfl)) (nst M) (allS M) (allS_lt hM) (allS_ne hM) (by rw [allS_size hM]; exact Nat.le_refl _)
  obtain ⟨y, hy, hle⟩ := firstE_le hM (allS_lt hM) (wt := oneB) h1 (by simp [oneB, h2])
  rw [h] at hy
  cases hy
  have h4 := sumB_top (nst M) (by have := hM.n9; omega)
  have h5 : x.word.length ≤ l.length := by
    rcases hle with h | h | ⟨h, -⟩
    · rw [h]; exact Nat.le_refl _
    · omega
    · omega
  omega
end Go.Proofs.YthlgdakdjikjhaaDoor
