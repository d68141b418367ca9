/-
  Images of sets under words: plain facts. No program.
-/
import Derived.Test.YthlgdakdjikjhaaDoorBfs
namespace Go.Proofs.YthlgdakdjikjhaaDoor

/-- A letter of a machine with k buttons. -/
def letB (k : Nat) (c : UInt8) : Bool := decide (97 ≤ c.toNat) && decide (c.toNat < 97 + k)
theorem letB_iff (k : Nat) (c : UInt8) : letB k c = true ↔ 97 ≤ c.toNat ∧ c.toNat < 97 + k := by simp [letB]
/-- The image of a set under a word. -/
def imgW (M : List (List Nat)) (s : Nat) (l : List UInt8) : Nat := l.foldl (fun t c => press M t (c.toNat - 97)) s
theorem imgW_app (M : List (List Nat)) (s : Nat) (a b : List UInt8) : imgW M s (a ++ b) = imgW M (imgW M s a) b := by simp [imgW, List.foldl_append]
theorem imgW_cons (M : List (List Nat)) (s : Nat) (c : UInt8) (l : List UInt8) : imgW M s (c :: l) = imgW M (press M s (c.toNat - 97)) l := rfl
theorem imgW_nil (M : List (List Nat)) (s : Nat) : imgW M s [] = s := rfl
theorem imgW_lt {M : List (List Nat)} (hM : OkM M) : ∀ (l : List UInt8) (s : Nat), s < 2 ^ nst M → imgW M s l < 2 ^ nst M := by
  intro l
  induction l with
  | nil => intro s h; exact h
  | cons c l ih => intro s h; exact ih _ (press_lt hM _ _)
/-- Bits of an image. -/
theorem prF_bit (s : Nat) : ∀ (r : List Nat) (q out t : Nat), (prF s r q out).testBit t = true ↔ out.testBit t = true ∨ ∃ j p, r[j]? = some p ∧ s.testBit (q + j) = true ∧ p = t := by
  intro r
  induction r with
  | nil => intro q out t; simp [prF]
  | cons p r ih =>
    intro q out t
    rw [prF, ih]
    constructor
    · rintro (h | ⟨j, x, h1, h2, h3⟩)
      · by_cases hs : s.testBit q = true
        · rw [if_pos hs, Nat.testBit_or, Bool.or_eq_true] at h
          rcases h with h | h
          · exact .inl h
          · rw [Nat.testBit_two_pow] at h
            exact .inr ⟨0, p, rfl, hs, by simpa using h⟩
        · rw [if_neg hs] at h; exact .inl h
      · exact .inr ⟨j + 1, x, h1, by rw [show q + (j + 1) = q + 1 + j by omega]; exact h2, h3⟩
    · rintro (h | ⟨j, x, h1, h2, h3⟩)
      · left
        split
        · rw [Nat.testBit_or, h]; rfl
        · exact h
      · cases j with
        | zero =>
          left
          simp only [List.getElem?_cons_zero, Option.some.injEq] at h1
          subst h1; subst h3
          rw [Nat.add_zero] at h2
          rw [if_pos h2, Nat.testBit_or, Nat.testBit_two_pow]
          simp
        | succ j => exact .inr ⟨j, x, h1, by rw [show q + 1 + j = q + (j + 1) by omega]; exact h2, h3⟩
/-- Where a button leads from a state. -/
def stp (M : List (List Nat)) (q b : Nat) : Nat := (M.getD b []).getD q 0
/-- Where a word leads from a state. -/
def tr (M : List (List Nat)) (q : Nat) (l : List UInt8) : Nat := l.foldl (fun t c => stp M t (c.toNat - 97)) q
theorem stp_lt {M : List (List Nat)} (hM : OkM M) {q b : Nat} (hb : b < M.length) (hq : q < nst M) : stp M q b < nst M := by
  have hr := getD_mem hb
  have hl := hM.row _ hr
  unfold stp
  rw [List.getD_eq_getElem?_getD, List.getElem?_eq_getElem (by omega)]
  exact hM.lt _ hr _ (List.getElem_mem _)
theorem tr_app (M : List (List Nat)) (q : Nat) (a b : List UInt8) : tr M q (a ++ b) = tr M (tr M q a) b := by simp [tr, List.foldl_append]
theorem bit_lt {s n t : Nat} (hs : s < 2 ^ n) (h : s.testBit t = true) : t < n := by
  rcases Nat.lt_or_ge t n with h1 | h1
  · exact h1
  · rw [Nat.testBit_lt_two_pow (Nat.lt_of_lt_of_le hs (Nat.pow_le_pow_right (by omega) h1))] at h; cases h
theorem press_bit {M : List (List Nat)} (hM : OkM M) {s b t : Nat} (hb : b < M.length) (hs : s < 2 ^ nst M) : (press M s b).testBit t = true ↔ ∃ q, s.testBit q = true ∧ stp M q b = t := by
  have hl := hM.row _ (getD_mem hb)
  unfold press
  rw [prF_bit]
  constructor
  · rintro (h | ⟨j, p, h1, h2, h3⟩)
    · simp at h
    · rw [Nat.zero_add] at h2
      refine ⟨j, h2, ?_⟩
      unfold stp
      rw [List.getD_eq_getElem?_getD, h1]; exact h3
  · rintro ⟨q, h1, h2⟩
    have hq := bit_lt hs h1
    rw [← hl] at hq
    right
    refine ⟨q, stp M q b, ?_, by rw [Nat.zero_add]; exact h1, h2⟩
    unfold stp
    generalize M.getD b [] = r at *
    rw [List.getD_eq_getElem?_getD, List.getElem?_eq_getElem hq]; rfl
theorem imgW_bit {M : List (List Nat)} (hM : OkM M) : ∀ (l : List UInt8) (s t : Nat), l.all (letB M.length) = true → s < 2 ^ nst M → ((imgW M s l).testBit t = true ↔ ∃ q, s.testBit q = true ∧ tr M q l = t) := by
  intro l
  induction l with
  | nil => intro s t _ _; simp [imgW, tr]
  | cons c l ih =>
    intro s t hl hs
    rw [List.all_cons, Bool.and_eq_true] at hl
    have hc := (letB_iff _ _).1 hl.1
    rw [imgW_cons, ih _ t hl.2 (press_lt hM _ _)]
    constructor
    · rintro ⟨q, h1, h2⟩
      obtain ⟨q0, h3, h4⟩ := (press_bit hM (by omega) hs).1 h1
      exact ⟨q0, h3, by show tr M (stp M q0 (c.toNat - 97)) l = t; rw [h4]; exact h2⟩
    · rintro ⟨q, h1, h2⟩
      exact ⟨stp M q (c.toNat - 97), (press_bit hM (by omega) hs).2 ⟨q, h1, rfl⟩, h2⟩
/-- Lists without doubles. -/
theorem len_sub : ∀ (a b : List Nat), a.Nodup → (∀ x ∈ a, x ∈ b) → a.length ≤ b.length := by
  intro a
  induction a with
  | nil => intro b _ _; simp
  | cons x a ih =>
    intro b hn h
    have hx := h x (List.mem_cons_self ..)
    have hn' := List.nodup_cons.1 hn
    have h1 := ih (b.erase x) hn'.2 fun y hy => by
      have hne : y ≠ x := fun e => hn'.1 (e ▸ hy)
      exact (List.mem_erase_of_ne hne).2 (h y (List.mem_cons_of_mem _ hy))
    rw [List.length_erase_of_mem hx] at h1
    have := List.length_pos_of_mem hx
    rw [List.length_cons]; omega
theorem listN_mem (s q : Nat) : q ∈ listN s ↔ q < 9 ∧ s.testBit q = true := by simp [listN]
theorem listN_nodup (s : Nat) : (listN s).Nodup := List.Pairwise.sublist List.filter_sublist List.nodup_range
theorem lt512 {M : List (List Nat)} (hM : OkM M) {s : Nat} (hs : s < 2 ^ nst M) : s < 512 := Nat.lt_of_lt_of_le hs (Nat.pow_le_pow_right (n := 2) (by omega) hM.n9)
theorem listN_bit {M : List (List Nat)} (hM : OkM M) {s : Nat} (hs : s < 2 ^ nst M) (q : Nat) : q ∈ listN s ↔ s.testBit q = true := by
  rw [listN_mem]
  exact ⟨fun h => h.2, fun h => ⟨by have := bit_lt hs h; have := hM.n9; omega, h⟩⟩
/-- A part has no more states. -/
theorem sizeN_sub {s t : Nat} (h : ∀ q, s.testBit q = true → t.testBit q = true) : sizeN s ≤ sizeN t :=
  len_sub _ _ (listN_nodup s) fun q hq => (listN_mem t q).2 ⟨((listN_mem s q).1 hq).1, h q ((listN_mem s q).1 hq).2⟩
/-- No image has more states. -/
theorem sizeN_img {M : List (List Nat)} (hM : OkM M) {l : List UInt8} {s : Nat} (hl : l.all (letB M.length) = true) (hs : s < 2 ^ nst M) : sizeN (imgW M s l) ≤ sizeN s := by
  have h1 := len_sub (listN (imgW M s l)) ((listN s).map fun q => tr M q l) (listN_nodup _) fun t ht => by
    obtain ⟨q, h1, h2⟩ := (imgW_bit hM l s t hl hs).1 ((listN_bit hM (imgW_lt hM l s hs) t).1 ht)
    exact List.mem_map.2 ⟨q, (listN_bit hM hs q).2 h1, h2⟩
  rw [List.length_map] at h1
  exact h1
/-- .. and fewer where two states meet. -/
theorem sizeN_meet {M : List (List Nat)} (hM : OkM M) {l : List UInt8} {s p q : Nat} (hl : l.all (letB M.length) = true) (hs : s < 2 ^ nst M) (hp : s.testBit p = true) (hq : s.testBit q = true) (hne : p ≠ q) (hm : tr M p l = tr M q l) : sizeN (imgW M s l) < sizeN s := by
  have hqm := (listN_bit hM hs q).2 hq
  have h1 := len_sub (listN (imgW M s l)) (((listN s).erase q).map fun q => tr M q l) (listN_nodup _) fun t ht => by
    obtain ⟨r, h1, h2⟩ := (imgW_bit hM l s t hl hs).1 ((listN_bit hM (imgW_lt hM l s hs) t).1 ht)
    by_cases hr : r = q
    · subst hr
      exact List.mem_map.2 ⟨p, (List.mem_erase_of_ne hne).2 ((listN_bit hM hs p).2 hp), by rw [hm]; exact h2⟩
    · exact List.mem_map.2 ⟨r, (List.mem_erase_of_ne hr).2 ((listN_bit hM hs r).2 h1), h2⟩
  rw [List.length_map, List.length_erase_of_mem hqm] at h1
  have := List.length_pos_of_mem hqm
  unfold sizeN
  omega
/-- What was reached is an image under its word. -/
theorem Good.word {M : List (List Nat)} {s : Nat} {L : List Ent} (h : Good M s L) (h4 : M.length ≤ 4) : ∀ (i : Nat) (e : Ent), L[i]? = some e → e.word.all (letB M.length) = true ∧ imgW M s e.word = e.set := by
  intro i
  induction i using Nat.strongRecOn with
  | _ i ih =>
    intro e he
    rcases Nat.eq_zero_or_pos i with h0 | h0
    · subst h0
      have := h.head
      rw [he] at this
      cases this
      exact ⟨rfl, rfl⟩
    · obtain ⟨j, p, h1, h2, -, hw, hb1, hb2, hset⟩ := h.par i e he h0
      obtain ⟨k1, k2⟩ := ih j h1 p h2
      have hbt : (UInt8.ofNat e.btn).toNat = e.btn := by rw [UInt8.toNat_ofNat']; omega
      rw [hw]
      refine ⟨?_, ?_⟩
      · rw [List.all_append, k1]
        simp [letB, hbt, hb1, hb2]
      · rw [imgW_app, k2, hset, imgW_cons, imgW_nil, hbt]
/-- Everything is reached. -/
theorem grow1_mem {M : List (List Nat)} (x : Ent) (L : List Ent) (b : Nat) : ∃ y ∈ grow1 M x L b, y.set = press M x.set b := by
  unfold grow1
  split
  · rename_i h
    obtain ⟨y, hy, he⟩ := List.any_eq_true.1 h
    exact ⟨y, hy, by simpa using he⟩
  · exact ⟨_, List.mem_append_right _ (List.mem_singleton.2 rfl), rfl⟩
theorem growF_mem {M : List (List Nat)} (x : Ent) : ∀ (k b : Nat) (L : List Ent) (j : Nat), b ≤ j → j < b + k → ∃ y ∈ growF M x k b L, y.set = press M x.set j := by
  intro k
  induction k with
  | zero => intro b L j h1 h2; omega
  | succ k ih =>
    intro b L j h1 h2
    rw [growF]
    rcases Nat.eq_or_lt_of_le h1 with h | h
    · subst h
      obtain ⟨y, hy, he⟩ := grow1_mem (M := M) x L b
      obtain ⟨T, hT⟩ := growF_app M x k (b + 1) (grow1 M x L b)
      exact ⟨y, by rw [hT]; exact List.mem_append_left _ hy, he⟩
    · exact ih (b + 1) _ j h (by omega)
theorem bfsF_closed {M : List (List Nat)} {s : Nat} (hM : OkM M) : ∀ (f i : Nat) (L : List Ent), Good M s L → 513 ≤ f + i → (∀ (j : Nat) (x : Ent) (b : Nat), L[j]? = some x → j < i → b < M.length → ∃ y ∈ L, y.set = press M x.set b) →
    ∀ x ∈ bfsF M f i L, ∀ b, b < M.length → ∃ y ∈ bfsF M f i L, y.set = press M x.set b := by
  intro f
  induction f with
  | zero =>
    intro i L hg hi h x hx b hb
    obtain ⟨j, hj, rfl⟩ := List.getElem_of_mem hx
    have hj' : j < L.length := hj
    have hl := hg.len hM
    exact h j _ b (List.getElem?_eq_getElem hj) (by omega) hb
  | succ f ih =>
    intro i L hg hi h
    rw [YthlgdakdjikjhaaDoor.bfsF]
    cases hx : L[i]? with
    | none =>
      intro x hx' b hb
      obtain ⟨j, hj, rfl⟩ := List.getElem_of_mem hx'
      have hj' : j < L.length := hj
      have hil : L.length ≤ i := by
        rcases Nat.lt_or_ge i L.length with h1 | h1
        · rw [List.getElem?_eq_getElem h1] at hx; cases hx
        · exact h1
      exact h j _ b (List.getElem?_eq_getElem hj) (by omega) hb
    | some x0 =>
      refine ih (i + 1) _ (hg.growF hM M.length 0 L hx (by omega)) (by omega) fun j x b hj hji hb => ?_
      obtain ⟨T, hT⟩ := growF_app M x0 M.length 0 L
      have hil := (List.getElem?_eq_some_iff.1 hx).1
      rcases Nat.lt_or_ge j i with h1 | h1
      · have hj2 : L[j]? = some x := by rw [hT, List.getElem?_append_left (by omega)] at hj; exact hj
        obtain ⟨y, hy, he⟩ := h j x b hj2 h1 hb
        exact ⟨y, by rw [hT]; exact List.mem_append_left _ hy, he⟩
      · have hji2 : j = i := by omega
        subst hji2
        have : x = x0 := by
          rw [hT, app_at hx] at hj
          exact (Option.some.inj hj).symm
        subst this
        exact growF_mem x M.length 0 L b (by omega) (by omega)
theorem reach_press {M : List (List Nat)} (hM : OkM M) {s : Nat} (hs : s < 2 ^ nst M) : ∀ x ∈ reach M s, ∀ b, b < M.length → ∃ y ∈ reach M s, y.set = press M x.set b :=
  bfsF_closed hM 513 0 _ (Good.start M s hs) (by omega) fun j x b _ hj _ => by omega
theorem reach_img {M : List (List Nat)} (hM : OkM M) {s : Nat} (hs : s < 2 ^ nst M) : ∀ (l : List UInt8), l.all (letB M.length) = true → ∀ x ∈ reach M s, ∃ y ∈ reach M s, y.set = imgW M x.set l := by
  intro l
  induction l with
  | nil => intro _ x hx; exact ⟨x, hx, rfl⟩
  | cons c l ih =>
    intro hl x hx
    rw [List.all_cons, Bool.and_eq_true] at hl
    have hc := (letB_iff _ _).1 hl.1
    obtain ⟨y, hy, he⟩ := reach_press hM hs x hx (c.toNat - 97) (by omega)
    obtain ⟨z, hz, hz2⟩ := ih hl.2 y hy
    exact ⟨z, hz, by rw [hz2, he]; rfl⟩
theorem reach_all {M : List (List Nat)} (hM : OkM M) {s : Nat} (hs : s < 2 ^ nst M) (l : List UInt8) (hl : l.all (letB M.length) = true) : ∃ y ∈ reach M s, y.set = imgW M s l := by
  have hh := (reach_good hM hs).head
  obtain ⟨y, hy, he⟩ := reach_img hM hs l hl ⟨s, [], 0, 0⟩ (List.mem_of_getElem? hh)
  exact ⟨y, hy, he⟩
end Go.Proofs.YthlgdakdjikjhaaDoor
