/-
  What the searches find: the plain laws of Least and Ring. No program.
-/
import Derived.Test.YthelnggbcgjbcaaPrgL
import Derived.Test.YthelnggbcgjbcaaSigns
namespace Go.Proofs.Ythelnggbcgjbcaa
open Go.RowKit

theorem tryN_append (g : Nat → Option (List Int)) (a b : List Nat) : tryN g (a ++ b) = (tryN g a).or (tryN g b) := by
  induction a with
  | nil => simp [tryN]
  | cons n r ih => simp [tryN, ih, Option.or_assoc]
theorem tryN_spec (g : Nat → Option (List Int)) (k : List Nat) (x : List Int) (h : tryN g k = some x) : ∃ pre m post, k = pre ++ m :: post ∧ g m = some x ∧ ∀ p ∈ pre, g p = none := by
  induction k with
  | nil => simp [tryN] at h
  | cons n r ih =>
    simp only [tryN] at h
    cases hn : g n with
    | some y => rw [hn] at h; exact ⟨[], n, r, rfl, by rw [hn]; simpa using h, by simp⟩
    | none =>
      rw [hn, Option.none_or] at h
      obtain ⟨pre, m, post, h1, h2, h3⟩ := ih h
      refine ⟨n :: pre, m, post, by rw [h1]; rfl, h2, fun p hp => ?_⟩
      rcases List.mem_cons.1 hp with rfl | hp
      · exact hn
      · exact h3 p hp
theorem tryN_isSome (g : Nat → Option (List Int)) (k : List Nat) (m : Nat) (hm : m ∈ k) (h : (g m).isSome = true) : (tryN g k).isSome = true := by
  induction k with
  | nil => simp at hm
  | cons n r ih =>
    simp only [tryN]
    rcases List.mem_cons.1 hm with rfl | hm
    · cases hg : g m with
      | none => rw [hg] at h; cases h
      | some y => rfl
    · cases hg : g n with
      | none => rw [Option.none_or]; exact ih hm
      | some y => rfl

theorem cutsB_one_len (n : Nat) (f : Nat) (x : List Int) (hf : f ≤ 1) : cutsB (f + (n - f) : Nat) f x = cutsB n f x := by
  by_cases h : f ≤ n
  · rw [show f + (n - f) = n by omega]
  · have h1 : f = 1 := by omega
    have h2 : n = 0 := by omega
    subst h1 h2
    cases x with
    | nil => rfl
    | cons c r =>
      have e1 : cutsB ((1 + (0 - 1) : Nat) : Int) ((1 : Nat) : Int) (c :: r) = false := by
        rw [Bool.eq_false_iff]; intro h; simp only [cutsB, Bool.and_eq_true, decide_eq_true_eq] at h; omega
      have e2 : cutsB ((0 : Nat) : Int) ((1 : Nat) : Int) (c :: r) = false := by
        rw [Bool.eq_false_iff]; intro h; simp only [cutsB, Bool.and_eq_true, decide_eq_true_eq] at h; omega
      rw [e1, e2]
theorem firstB_some {ring : Bool} {l : List UInt8} {m : Nat} {x : List Int} (h : firstB ring l m = some x) : x.length = m ∧ cutsB l.length (if ring then 0 else 1) x = true ∧ testB ring l x = true := by
  have hm := List.mem_of_find?_eq_some h
  have ht := List.find?_some h
  simp only [nxt, List.nil_append, List.map_id', lsts_mem] at hm
  rw [cutsB_one_len _ _ _ (by cases ring <;> simp)] at hm
  refine ⟨hm.1, ?_, ht⟩
  have := hm.2
  cases ring <;> simpa using this
theorem firstB_isSome {ring : Bool} {l : List UInt8} {m : Nat} : (firstB ring l m).isSome = true ↔ ∃ x, x.length = m ∧ cutsB l.length (if ring then 0 else 1) x = true ∧ testB ring l x = true := by
  constructor
  · intro h
    obtain ⟨x, hx⟩ := Option.isSome_iff_exists.1 h
    exact ⟨x, firstB_some hx⟩
  · rintro ⟨x, h1, h2, h3⟩
    unfold firstB
    rw [List.find?_isSome]
    refine ⟨x, ?_, h3⟩
    simp only [nxt, List.nil_append, List.map_id', lsts_mem]
    rw [cutsB_one_len _ _ _ (by cases ring <;> simp)]
    refine ⟨h1, ?_⟩
    cases ring <;> simpa using h2

theorem even_facts {l : List UInt8} (h : evenChainB l = true) : l.all okb = true ∧ evenB l = true ∧ l.length ≤ 24 := by
  simp [evenChainB, chainB] at h
  exact ⟨by simpa using h.1.1, h.2, h.1.2⟩
theorem kindsN_le (l : List UInt8) : kindsN l ≤ 4 := by unfold kindsN; omega

/-- What Least finds. -/
theorem least_spec (l : List UInt8) (h : evenChainB l = true) : cutsB l.length 1 (leastC l) = true ∧ fairB l (leastC l) = true ∧ (leastC l).length ≤ kindsN l ∧ (∀ m, m < (leastC l).length → ¬ ChainHas l m) ∧
    (tryN (fun n => srch false l [] n 1) [0, 1, 2, 3, 4]).getD [] = leastC l := by
  obtain ⟨hok, hev, -⟩ := even_facts h
  obtain ⟨L, h1, h2, h3⟩ := chain_fair l hok hev
  have hs : (tryN (firstB false l) (List.range (kindsN l + 1))).isSome = true := tryN_isSome _ _ L.length (List.mem_range.2 (by omega)) (firstB_isSome.2 ⟨L, rfl, h1, h2⟩)
  obtain ⟨x, hx⟩ := Option.isSome_iff_exists.1 hs
  have e : leastC l = x := by rw [leastC, if_pos h, hx]; rfl
  obtain ⟨pre, m, post, hk, hm, hp⟩ := tryN_spec _ _ _ hx
  obtain ⟨g1, g2, g3⟩ := firstB_some hm
  have hpm : ∀ i, i < m → i ∈ pre := by
    have hml : pre.length < (List.range (kindsN l + 1)).length := by rw [hk]; simp
    have hmm : m = pre.length := by
      have := congrArg (·[pre.length]?) hk
      simp at this hml
      rw [List.getElem?_eq_getElem (by simpa using hml)] at this
      simp at this
      exact this.symm
    intro i hi
    have : pre = List.range pre.length := by
      have := congrArg (List.take pre.length) hk
      rw [List.take_append_of_le_length (Nat.le_refl _), List.take_length] at this
      rw [← this, List.take_range]
      simp at hml; simp
    rw [this, List.mem_range]; omega
  have hmk : m ≤ kindsN l := by
    have : m ∈ List.range (kindsN l + 1) := by rw [hk]; simp
    have := List.mem_range.1 this; omega
  rw [e]
  refine ⟨by simpa using g2, by simpa [testB] using g3, by omega, fun i hi ⟨L, l1, l2, l3⟩ => ?_, ?_⟩
  · have := hp i (hpm i (by omega))
    have h5 := firstB_isSome (ring := false).2 ⟨L, l1, by simpa using l2, by simpa [testB] using l3⟩
    rw [this] at h5; cases h5
  · have e2 : [0, 1, 2, 3, 4] = List.range (kindsN l + 1) ++ List.range' (kindsN l + 1) (4 - kindsN l) := by
      have := kindsN_le l
      rcases (show kindsN l = 0 ∨ kindsN l = 1 ∨ kindsN l = 2 ∨ kindsN l = 3 ∨ kindsN l = 4 by omega) with e | e | e | e | e <;> rw [e] <;> rfl
    have e3 : tryN (fun n => srch false l [] n 1) [0, 1, 2, 3, 4] = some x := by
      rw [e2, tryN_append]
      have : tryN (fun n => srch false l [] n 1) (List.range (kindsN l + 1)) = some x := hx
      rw [this]; rfl
    rw [e3]; rfl

/-- What Ring finds. -/
theorem ring_spec (l : List UInt8) (h : evenChainB l = true) : cutsB l.length 0 (ringC l) = true ∧ fairRingB l (ringC l) = true ∧ (ringC l).length % 2 = 0 ∧ (ringC l).length ≤ 4 ∧ (∀ m, m % 2 = 0 → m < (ringC l).length → ¬ RingHas l m) ∧ RingHas l (ringC l).length := by
  obtain ⟨hok, hev, -⟩ := even_facts h
  obtain ⟨L, h1, h2, h3⟩ := chain_fair l hok hev
  have hk4 := kindsN_le l
  obtain ⟨R, r1, r2, r3⟩ := ring_chain l L.length ⟨L, rfl, h1, h2⟩
  have hs : (tryN (firstB true l) [0, 2, 4]).isSome = true := by
    refine tryN_isSome _ _ R.length ?_ (firstB_isSome.2 ⟨R, rfl, by simpa using r2, by rw [testB, if_pos rfl, ← fairRingP_eq _ hok]; exact r3⟩)
    rw [r1]
    rcases (show L.length = 0 ∨ L.length = 1 ∨ L.length = 2 ∨ L.length = 3 ∨ L.length = 4 by omega) with e | e | e | e | e <;> rw [e] <;> simp
  obtain ⟨x, hx⟩ := Option.isSome_iff_exists.1 hs
  have e : ringC l = x := by rw [ringC, if_pos h, ringT, hx]; rfl
  obtain ⟨pre, m, post, hk, hm, hp⟩ := tryN_spec _ _ _ hx
  obtain ⟨g1, g2, g3⟩ := firstB_some hm
  rw [testB, if_pos rfl] at g3
  have hmm : m ∈ [0, 2, 4] := by rw [hk]; simp
  have hpm : ∀ i, i % 2 = 0 → i < m → i ∈ pre := by
    intro i h1 h2
    simp only [List.mem_cons, List.not_mem_nil, or_false] at hmm
    rcases hmm with rfl | rfl | rfl
    · omega
    · cases pre with
      | nil => simp at hk
      | cons p pre =>
        simp at hk
        obtain ⟨rfl, hk⟩ := hk
        have : i = 0 := by omega
        subst this; simp
    · cases pre with
      | nil => simp at hk
      | cons p pre =>
        simp at hk
        obtain ⟨rfl, hk⟩ := hk
        cases pre with
        | nil => simp at hk
        | cons q pre =>
          simp at hk
          obtain ⟨rfl, hk⟩ := hk
          rcases (show i = 0 ∨ i = 2 by omega) with rfl | rfl <;> simp
  rw [e]
  refine ⟨by simpa using g2, g3, ?_, ?_, fun i he hi ⟨L, l1, l2, l3⟩ => ?_, ⟨x, rfl, by simpa using g2, by rw [fairRingP_eq _ hok]; exact g3⟩⟩
  · rw [g1]; simp at hmm; omega
  · rw [g1]; simp at hmm; omega
  · have := hp i (hpm i he (by omega))
    have h5 := firstB_isSome (ring := true).2 ⟨L, l1, by simpa using l2, by rw [testB, if_pos rfl, ← fairRingP_eq _ hok]; exact l3⟩
    rw [this] at h5; cases h5
/-- Not more cuts than the chain needs, or one more. -/
theorem ring_le (l : List UInt8) (h : evenChainB l = true) (m : Nat) (hm : ChainHas l m) : (ringC l).length ≤ m + m % 2 := by
  obtain ⟨-, -, h1, -, h2, -⟩ := ring_spec l h
  rcases Nat.lt_or_ge (m + m % 2) (ringC l).length with h3 | h3
  · exact absurd (ring_chain l m hm) (h2 _ (by omega) h3)
  · exact h3
theorem ring_same (a b : List UInt8) (h : evenChainB (a ++ b) = true) (h' : evenChainB (b ++ a) = true) : (ringC (b ++ a)).length = (ringC (a ++ b)).length := by
  obtain ⟨-, -, h1, -, h2, h3⟩ := ring_spec _ h
  obtain ⟨-, -, k1, -, k2, k3⟩ := ring_spec _ h'
  rcases Nat.lt_trichotomy (ringC (b ++ a)).length (ringC (a ++ b)).length with hlt | heq | hgt
  · exact absurd ((ring_turn _ _ _ k1).2 k3) (h2 _ k1 hlt)
  · exact heq
  · exact absurd ((ring_turn _ _ _ h1).1 h3) (k2 _ h1 hgt)
end Go.Proofs.Ythelnggbcgjbcaa
