/-
  The order of words: the search finds the first one. No program.
-/
import Derived.Test.YthlgdakdjikjhaaDoorImg
import Derived.Test.YthlgdakdjikjhaaDoorG
namespace Go.Proofs.YthlgdakdjikjhaaDoor

/-- The order of words: shorter ones first. -/
def ltW (a b : List UInt8) : Prop := a.length < b.length ∨ (a.length = b.length ∧ a < b)
def leW (a b : List UInt8) : Prop := a = b ∨ ltW a b
theorem ltW_trans {a b c : List UInt8} (h : ltW a b) (h2 : ltW b c) : ltW a c := by
  rcases h with h | ⟨h, k⟩ <;> rcases h2 with h2 | ⟨h2, k2⟩
  · exact .inl (by omega)
  · exact .inl (by omega)
  · exact .inl (by omega)
  · exact .inr ⟨by omega, List.lt_trans k k2⟩
theorem ltW_irrefl {a : List UInt8} (h : ltW a a) : False := by
  rcases h with h | ⟨-, h⟩
  · omega
  · exact List.lt_irrefl _ h
theorem leW_refl (a : List UInt8) : leW a a := .inl rfl
theorem leW_trans {a b c : List UInt8} (h : leW a b) (h2 : leW b c) : leW a c := by
  rcases h with rfl | h
  · exact h2
  · rcases h2 with rfl | h2
    · exact .inr h
    · exact .inr (ltW_trans h h2)
theorem leW_not {a b : List UInt8} (h : leW a b) : ¬ ltW b a := by
  rcases h with rfl | h
  · exact ltW_irrefl
  · exact fun h2 => ltW_irrefl (ltW_trans h h2)
theorem lex_snoc : ∀ (a b : List UInt8) (c d : UInt8), a.length = b.length → a < b → a ++ [c] < b ++ [d] := by
  intro a
  induction a with
  | nil => intro b c d hl h; cases b with
    | nil => exact absurd h (List.lt_irrefl _)
    | cons => simp at hl
  | cons x a ih =>
    intro b c d hl h
    cases b with
    | nil => simp at hl
    | cons y b =>
      simp only [List.cons_append, List.cons_lt_cons_iff] at h ⊢
      rcases h with h | ⟨rfl, h⟩
      · exact .inl h
      · exact .inr ⟨rfl, ih b c d (by simpa using hl) h⟩
theorem lex_snoc_eq : ∀ (a : List UInt8) (c d : UInt8), c < d → a ++ [c] < a ++ [d] := by
  intro a
  induction a with
  | nil => intro c d h; exact List.cons_lt_cons_iff.2 (.inl h)
  | cons x a ih => intro c d h; exact List.cons_lt_cons_iff.2 (.inr ⟨rfl, ih c d h⟩)
theorem ltW_snoc {a b : List UInt8} (c d : UInt8) (h : ltW a b) : ltW (a ++ [c]) (b ++ [d]) := by
  rcases h with h | ⟨h, k⟩
  · exact .inl (by simp; omega)
  · exact .inr ⟨by simp; omega, lex_snoc a b c d h k⟩
theorem ltW_snoc_eq (a : List UInt8) {c d : UInt8} (h : c < d) : ltW (a ++ [c]) (a ++ [d]) := .inr ⟨by simp, lex_snoc_eq a c d h⟩
theorem leW_snoc {a b : List UInt8} (c : UInt8) (h : leW a b) : leW (a ++ [c]) (b ++ [c]) := by
  rcases h with rfl | h
  · exact leW_refl _
  · exact .inr (ltW_snoc c c h)

/-- The list of the images is in the order of its words, as far as the search has come: entry i, button b. -/
structure Ord (i b : Nat) (L : List Ent) : Prop where
  sorted : ∀ (j k : Nat) (x y : Ent), j < k → L[j]? = some x → L[k]? = some y → ltW x.word y.word
  par : ∀ (k : Nat) (e : Ent), L[k]? = some e → 1 ≤ k → ∃ (j : Nat) (p : Ent) (c : Nat), L[j]? = some p ∧ e.word = p.word ++ [UInt8.ofNat (97 + c)] ∧ (j < i ∨ (j = i ∧ c < b)) ∧ c < 20
  root : ∀ e : Ent, L[0]? = some e → e.word = []
theorem Ord.start (s : Nat) : Ord 0 0 [⟨s, [], 0, 0⟩] where
  sorted := fun j k x y hjk hj hk => by
    have := (List.getElem?_eq_some_iff.1 hk).1
    simp at this; omega
  par := fun k e hk h1 => by
    have := (List.getElem?_eq_some_iff.1 hk).1
    simp at this; omega
  root := fun e h => by simp at h; subst h; rfl
theorem ofNat_lt {c d : Nat} (h : c < d) (hd : d < 20) : UInt8.ofNat (97 + c) < UInt8.ofNat (97 + d) := by
  rw [UInt8.lt_iff_toNat_lt, UInt8.toNat_ofNat', UInt8.toNat_ofNat']; omega
theorem Ord.below {i b : Nat} {L : List Ent} (h : Ord i b L) {x : Ent} (hx : L[i]? = some x) (hb : b < 20) : ∀ e ∈ L, ltW e.word (x.word ++ [UInt8.ofNat (97 + b)]) := by
  intro e he
  obtain ⟨k, hk⟩ := List.getElem?_of_mem he
  rcases Nat.eq_zero_or_pos k with h0 | h0
  · subst h0
    rw [h.root e hk]
    exact .inl (by simp)
  · obtain ⟨j, p, c, h1, h2, h3, h4⟩ := h.par k e hk h0
    rw [h2]
    rcases h3 with h3 | ⟨h3, h5⟩
    · exact ltW_snoc _ _ (h.sorted j i p x h3 h1 hx)
    · subst h3
      rw [hx] at h1
      cases h1
      exact ltW_snoc_eq _ (ofNat_lt h5 hb)
theorem Ord.grow1 {M : List (List Nat)} {i b : Nat} {L : List Ent} (h : Ord i b L) {x : Ent} (hx : L[i]? = some x) (hb : b < 20) : Ord i (b + 1) (grow1 M x L b) := by
  have hil := (List.getElem?_eq_some_iff.1 hx).1
  unfold YthlgdakdjikjhaaDoor.grow1
  split
  · exact ⟨h.sorted, fun k e hk h1 => by
      obtain ⟨j, p, c, h2, h3, h4, h5⟩ := h.par k e hk h1
      exact ⟨j, p, c, h2, h3, by omega, h5⟩, h.root⟩
  · have hbel := h.below hx hb
    refine ⟨fun j k u v hjk hj hk => ?_, fun k e hk h1 => ?_, fun e he => ?_⟩
    · have hkl := (List.getElem?_eq_some_iff.1 hk).1
      rw [List.length_append, List.length_singleton] at hkl
      have hj2 : L[j]? = some u := by rw [List.getElem?_append_left (by omega)] at hj; exact hj
      rcases Nat.lt_or_ge k L.length with h2 | h2
      · rw [List.getElem?_append_left h2] at hk
        exact h.sorted j k u v hjk hj2 hk
      · have hk0 : k - L.length = 0 := by omega
        rw [List.getElem?_append_right h2, hk0] at hk
        simp only [List.getElem?_cons_zero, Option.some.injEq] at hk
        subst hk
        exact hbel u (List.mem_of_getElem? hj2)
    · have hkl := (List.getElem?_eq_some_iff.1 hk).1
      rw [List.length_append, List.length_singleton] at hkl
      rcases Nat.lt_or_ge k L.length with h2 | h2
      · rw [List.getElem?_append_left h2] at hk
        obtain ⟨j, p, c, h3, h4, h5, h6⟩ := h.par k e hk h1
        exact ⟨j, p, c, app_at h3, h4, by omega, h6⟩
      · have hk0 : k - L.length = 0 := by omega
        rw [List.getElem?_append_right h2, hk0] at hk
        simp only [List.getElem?_cons_zero, Option.some.injEq] at hk
        subst hk
        exact ⟨i, x, b, app_at hx, rfl, .inr ⟨rfl, by omega⟩, hb⟩
    · rw [List.getElem?_append_left (by omega)] at he
      exact h.root e he
theorem Ord.next {i b : Nat} {L : List Ent} (h : Ord i b L) : Ord (i + 1) 0 L := ⟨h.sorted, fun k e hk h1 => by
  obtain ⟨j, p, c, h2, h3, h4, h5⟩ := h.par k e hk h1
  exact ⟨j, p, c, h2, h3, .inl (by omega), h5⟩, h.root⟩
theorem Ord.growF {M : List (List Nat)} {i : Nat} {x : Ent} : ∀ (k b : Nat) (L : List Ent), Ord i b L → L[i]? = some x → b + k ≤ 20 → Ord i (b + k) (growF M x k b L) := by
  intro k
  induction k with
  | zero => intro b L h _ _; exact h
  | succ k ih =>
    intro b L h hx hb
    obtain ⟨T, hT⟩ := grow1_app M x L b
    have := ih (b + 1) _ (h.grow1 (M := M) hx (by omega)) (by rw [hT]; exact app_at hx) (by omega)
    rw [show b + (k + 1) = b + 1 + k by omega]
    exact this
theorem grow1_le {M : List (List Nat)} {i b : Nat} {x : Ent} {L : List Ent} (h : Ord i b L) (hx : L[i]? = some x) (hb : b < 20) : ∃ y ∈ grow1 M x L b, y.set = press M x.set b ∧ leW y.word (x.word ++ [UInt8.ofNat (97 + b)]) := by
  unfold grow1
  split
  · rename_i h1
    obtain ⟨y, hy, he⟩ := List.any_eq_true.1 h1
    exact ⟨y, hy, by simpa using he, .inr (h.below hx hb y hy)⟩
  · exact ⟨_, List.mem_append_right _ (List.mem_singleton.2 rfl), rfl, leW_refl _⟩
theorem growF_le {M : List (List Nat)} {i : Nat} {x : Ent} : ∀ (k b : Nat) (L : List Ent) (j : Nat), Ord i b L → L[i]? = some x → b + k ≤ 20 → b ≤ j → j < b + k → ∃ y ∈ growF M x k b L, y.set = press M x.set j ∧ leW y.word (x.word ++ [UInt8.ofNat (97 + j)]) := by
  intro k
  induction k with
  | zero => intro b L j _ _ _ h1 h2; omega
  | succ k ih =>
    intro b L j hO hx hb h1 h2
    rw [growF]
    rcases Nat.eq_or_lt_of_le h1 with h | h
    · subst h
      obtain ⟨y, hy, he⟩ := grow1_le (M := M) hO hx (by omega)
      obtain ⟨T, hT⟩ := growF_app M x k (b + 1) (grow1 M x L b)
      exact ⟨y, by rw [hT]; exact List.mem_append_left _ hy, he⟩
    · obtain ⟨T, hT⟩ := grow1_app M x L b
      exact ih (b + 1) _ j (hO.grow1 hx (by omega)) (by rw [hT]; exact app_at hx) (by omega) h (by omega)
theorem bfsF_le {M : List (List Nat)} {s : Nat} (hM : OkM M) : ∀ (f i : Nat) (L : List Ent), Good M s L → Ord i 0 L → 513 ≤ f + i → (∀ (j : Nat) (x : Ent) (b : Nat), L[j]? = some x → j < i → b < M.length → ∃ y ∈ L, y.set = press M x.set b ∧ leW y.word (x.word ++ [UInt8.ofNat (97 + b)])) →
    (∀ x ∈ bfsF M f i L, ∀ b, b < M.length → ∃ y ∈ bfsF M f i L, y.set = press M x.set b ∧ leW y.word (x.word ++ [UInt8.ofNat (97 + b)])) ∧ ∃ i', Ord i' 0 (bfsF M f i L) := by
  have hm4 := hM.b4
  intro f
  induction f with
  | zero =>
    intro i L hg hO hi h
    refine ⟨fun x hx b hb => ?_, i, hO⟩
    obtain ⟨j, hj, rfl⟩ := List.getElem_of_mem hx
    have hj' : j < L.length := hj
    have hl := hg.len hM
    exact h j _ b (List.getElem?_eq_getElem hj) (by omega) hb
  | succ f ih =>
    intro i L hg hO hi h
    rw [YthlgdakdjikjhaaDoor.bfsF]
    cases hx : L[i]? with
    | none =>
      refine ⟨fun x hx' b hb => ?_, i, hO⟩
      obtain ⟨j, hj, rfl⟩ := List.getElem_of_mem hx'
      have hj' : j < L.length := hj
      have hil : L.length ≤ i := by
        rcases Nat.lt_or_ge i L.length with h1 | h1
        · rw [List.getElem?_eq_getElem h1] at hx; cases hx
        · exact h1
      exact h j _ b (List.getElem?_eq_getElem hj) (by omega) hb
    | some x0 =>
      refine ih (i + 1) _ (hg.growF hM M.length 0 L hx (by omega)) (hO.growF M.length 0 L hx (by omega)).next (by omega) fun j x b hj hji hb => ?_
      obtain ⟨T, hT⟩ := growF_app M x0 M.length 0 L
      have hil := (List.getElem?_eq_some_iff.1 hx).1
      rcases Nat.lt_or_ge j i with h1 | h1
      · have hj2 : L[j]? = some x := by rw [hT, List.getElem?_append_left (by omega)] at hj; exact hj
        obtain ⟨y, hy, he⟩ := h j x b hj2 h1 hb
        exact ⟨y, by rw [hT]; exact List.mem_append_left _ hy, he⟩
      · have hji2 : j = i := by omega
        subst hji2
        have : x = x0 := by
          rw [hT, app_at hx] at hj
          exact (Option.some.inj hj).symm
        subst this
        exact growF_le M.length 0 L b hO hx (by omega) (by omega) (by omega)
theorem reach_le1 {M : List (List Nat)} (hM : OkM M) {s : Nat} (hs : s < 2 ^ nst M) : (∀ x ∈ reach M s, ∀ b, b < M.length → ∃ y ∈ reach M s, y.set = press M x.set b ∧ leW y.word (x.word ++ [UInt8.ofNat (97 + b)])) ∧ ∃ i', Ord i' 0 (reach M s) :=
  bfsF_le hM 513 0 _ (Good.start M s hs) (Ord.start s) (by omega) fun j x b _ hj _ => by omega
theorem reach_le2 {M : List (List Nat)} (hM : OkM M) {s : Nat} (hs : s < 2 ^ nst M) : ∀ (l : List UInt8), l.all (letB M.length) = true → ∀ x ∈ reach M s, ∀ u, leW x.word u → ∃ y ∈ reach M s, y.set = imgW M x.set l ∧ leW y.word (u ++ l) := by
  intro l
  induction l with
  | nil => intro _ x hx u hu; exact ⟨x, hx, rfl, by rw [List.append_nil]; exact hu⟩
  | cons c l ih =>
    intro hl x hx u hu
    rw [List.all_cons, Bool.and_eq_true] at hl
    have hc := (letB_iff _ _).1 hl.1
    obtain ⟨y, hy, he, hle⟩ := (reach_le1 hM hs).1 x hx (c.toNat - 97) (by omega)
    rw [show UInt8.ofNat (97 + (c.toNat - 97)) = c by rw [show 97 + (c.toNat - 97) = c.toNat by omega]; exact UInt8.ofNat_toNat] at hle
    obtain ⟨z, hz, hz2, hz3⟩ := ih hl.2 y hy (u ++ [c]) (leW_trans hle (leW_snoc c hu))
    exact ⟨z, hz, by rw [hz2, he]; rfl, by simpa using hz3⟩
/-- Whatever a word leads to is reached by a word that is no later. -/
theorem reach_le {M : List (List Nat)} (hM : OkM M) {s : Nat} (hs : s < 2 ^ nst M) (l : List UInt8) (hl : l.all (letB M.length) = true) : ∃ y ∈ reach M s, y.set = imgW M s l ∧ leW y.word l := by
  have hh := (reach_good hM hs).head
  obtain ⟨y, hy, he, hle⟩ := reach_le2 hM hs l hl ⟨s, [], 0, 0⟩ (List.mem_of_getElem? hh) [] (leW_refl _)
  exact ⟨y, hy, he, by simpa using hle⟩
/-- The first image that is wanted has the first word. -/
theorem firstE_le {M : List (List Nat)} (hM : OkM M) {s : Nat} (hs : s < 2 ^ nst M) {wt : Nat → Bool} {l : List UInt8} (hl : l.all (letB M.length) = true) (h : wt (imgW M s l) = true) : ∃ x, firstE M s wt = some x ∧ leW x.word l := by
  obtain ⟨y, hy, he, hle⟩ := reach_le hM hs l hl
  obtain ⟨i', hO⟩ := (reach_le1 hM hs).2
  obtain ⟨k, hk⟩ := List.getElem?_of_mem hy
  cases hf : firstE M s wt with
  | none =>
    unfold firstE at hf
    rw [List.find?_eq_none] at hf
    exact absurd (by rw [he]; exact h) (hf y hy)
  | some x =>
    refine ⟨x, rfl, ?_⟩
    unfold firstE at hf
    rw [List.find?_eq_some_iff_getElem] at hf
    obtain ⟨-, j, hj, hj2, hlt⟩ := hf
    have hkl := (List.getElem?_eq_some_iff.1 hk).1
    have hk2 := (List.getElem?_eq_some_iff.1 hk).2
    have hjk : j ≤ k := by
      rcases Nat.lt_or_ge k j with h1 | h1
      · have := hlt k h1
        rw [hk2, he, h] at this; cases this
      · exact h1
    rcases Nat.eq_or_lt_of_le hjk with h1 | h1
    · subst h1
      rw [hk2] at hj2
      subst hj2
      exact hle
    · exact leW_trans (.inr (hO.sorted j k x y h1 (by rw [List.getElem?_eq_getElem hj, hj2]) hk)) hle

/-- The model's order of strings. -/
theorem bytesLess_lt : ∀ (x y : List UInt8), Op.bytesLess x y = decide (x < y)
  | [], [] => by simp [Op.bytesLess]
  | _ :: _, [] => by simp [Op.bytesLess]
  | [], _ :: _ => by simp [Op.bytesLess]
  | a :: x, b :: y => by
    rw [Op.bytesLess, bytesLess_lt x y]
    simp only [List.cons_lt_cons_iff]
    by_cases h1 : a < b <;> by_cases h2 : a = b <;> by_cases h3 : x < y <;> simp [h1, h2, h3]
end Go.Proofs.YthlgdakdjikjhaaDoor
