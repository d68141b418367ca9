/-
  Texts merged: SetsB, Lex, Meet, Bound, T.
-/
import Derived.Test.YthlgdakdjikjhaaDoorUB
import Derived.Test.YthlgdakdjikjhaaDoorUC
import Derived.Test.YthlgdakdjikjhaaDoorUD
import Derived.Test.YthlgdakdjikjhaaDoorUE
/-
  Lists that are sets, and their numbers' bits. No program.
-/
namespace Go.Proofs.YthlgdakdjikjhaaDoor

def castL (l : List Nat) : List Int := l.map fun (x : Nat) => (x : Int)
theorem castL_len (l : List Nat) : (castL l).length = l.length := by simp [castL]
instance (n : Nat) (l : List Int) : Decidable (setB n l = true) := inferInstance
theorem list_set : ∀ n : Nat, n < 10 → ∀ x : Nat, x < 512 → x < 2 ^ n → setB n (castL (listN x)) = true := by decide +kernel
theorem list_num : ∀ x : Nat, x < 512 → numL (castL (listN x)) = x := by decide +kernel
theorem numF_bit {n : Nat} : ∀ (l : List Int) (p : Option Int) (s : Nat), setF n p l = true → (∀ x, p = some x → 0 ≤ x ∧ s < 2 ^ (x.toNat + 1)) → (p = none → s = 0) → ∀ t, (numF l s).testBit t = true ↔ s.testBit t = true ∨ ∃ q ∈ l, q.toNat = t := by
  intro l
  induction l with
  | nil => intro p s _ _ _ t; simp [numF]
  | cons q l ih =>
    intro p s h hp h0 t
    rw [setF, Bool.and_eq_true] at h
    obtain ⟨k1, k2, k3⟩ := (okQ_iff _ _ _).1 h.1
    have hs : s < 2 ^ q.toNat := by
      cases p with
      | none => rw [h0 rfl]; exact Nat.two_pow_pos _
      | some x =>
        obtain ⟨hx, hs⟩ := hp x rfl
        have := k3 x rfl
        exact Nat.lt_of_lt_of_le hs (Nat.pow_le_pow_right (by omega) (by omega))
    rw [numF, ih (some q) _ h.2 (fun x hx => by cases hx; exact ⟨k1, by rw [Nat.pow_succ]; omega⟩) (fun hh => by cases hh), ← or_add hs, Nat.testBit_or, Bool.or_eq_true, Nat.testBit_two_pow]
    simp only [decide_eq_true_eq, List.mem_cons]
    constructor
    · rintro ((h | h) | ⟨x, hx, h⟩)
      · exact .inl h
      · exact .inr ⟨q, .inl rfl, h⟩
      · exact .inr ⟨x, .inr hx, h⟩
    · clear h
      rintro (h | ⟨x, hq | hx, h2⟩)
      · exact .inl (.inl h)
      · exact .inl (.inr (by rw [← hq]; exact h2))
      · exact .inr ⟨x, hx, h2⟩
theorem numL_bit {n : Nat} {l : List Int} (h : setB n l = true) (t : Nat) : (numL l).testBit t = true ↔ ∃ q ∈ l, q.toNat = t := by
  have := numF_bit l none 0 h (fun x hx => by cases hx) (fun _ => rfl) t
  rw [numL, this]
  simp
/-- A set's number has no more bits than the list has numbers. -/
theorem size_num {n : Nat} {l : List Int} (h : setB n l = true) : sizeN (numL l) ≤ l.length := by
  have := len_sub (listN (numL l)) (l.map Int.toNat) (listN_nodup _) fun t ht => by
    obtain ⟨q, hq, he⟩ := (numL_bit h t).1 ((listN_mem _ _).1 ht).2
    exact List.mem_map.2 ⟨q, hq, he⟩
  rw [List.length_map] at this
  exact this
theorem setF_filter {n : Nat} (f : Nat → Bool) : ∀ (k b : Nat) (p : Option Int), b + k ≤ n → (∀ x, p = some x → x < (b : Int)) → setF n p (castL ((List.range' b k).filter f)) = true := by
  intro k
  induction k with
  | zero => intro b p _ _; rfl
  | succ k ih =>
    intro b p hb hp
    rw [List.range'_succ, List.filter_cons]
    split
    · rw [castL, List.map_cons, setF, Bool.and_eq_true]
      refine ⟨(okQ_iff _ _ _).2 ⟨by omega, by omega, hp⟩, ?_⟩
      exact ih (b + 1) (some (b : Int)) (by omega) fun x hx => by cases hx; omega
    · exact ih (b + 1) p (by omega) fun x hx => by have := hp x hx; omega
theorem setB_filter (n : Nat) (f : Nat → Bool) : setB n (castL ((List.range n).filter f)) = true := by
  rw [List.range_eq_range']
  exact setF_filter f n 0 none (by omega) fun x hx => by cases hx

/-- Is a state in the set that is made of a list's first i numbers? -/
def inP (n : Nat) (l : List Int) (q i : Nat) : Bool := (decide (l.length = 0) && decide (q = 0)) || (l.take i).any fun z => modN z n == q
def statesL (n : Nat) (l : List Int) : List Nat := (List.range n).filter fun q => inP n l q 20
theorem states_set (n : Nat) (l : List Int) : setB n (castL (statesL n l)) = true := setB_filter n _
theorem states_len (n : Nat) (l : List Int) : (statesL n l).length ≤ n := by
  unfold statesL
  have := List.length_filter_le (fun q => inP n l q 20) (List.range n)
  rw [List.length_range] at this
  exact this
theorem states_ne (n : Nat) (l : List Int) (hn : 1 ≤ n) : statesL n l ≠ [] := by
  intro h
  unfold statesL at h
  rw [List.filter_eq_nil_iff] at h
  cases l with
  | nil => exact h 0 (List.mem_range.2 (by omega)) rfl
  | cons z l =>
    refine h (modN z n) (List.mem_range.2 (modN_lt z n (by omega))) ?_
    unfold inP
    rw [List.take_succ_cons, List.any_cons]
    simp

/-- A letter made of any byte. -/
def letK (k : Nat) (c : UInt8) : UInt8 := UInt8.ofNat (97 + c.toNat % k)
def mkWord (k : Nat) (l : List UInt8) : List UInt8 := l.map (letK k)
theorem letK_nat (k : Nat) (c : UInt8) (h1 : 1 ≤ k) (h4 : k ≤ 4) : (letK k c).toNat = 97 + c.toNat % k := by
  have := Nat.mod_lt c.toNat (show k > 0 by omega)
  unfold letK
  rw [UInt8.toNat_ofNat']; omega
theorem letK_ok (k : Nat) (c : UInt8) (h1 : 1 ≤ k) (h4 : k ≤ 4) : letB k (letK k c) = true := by
  have := Nat.mod_lt c.toNat (show k > 0 by omega)
  rw [letB_iff, letK_nat k c h1 h4]; omega
theorem mkWord_all (k : Nat) (l : List UInt8) (h1 : 1 ≤ k) (h4 : k ≤ 4) : (mkWord k l).all (letB k) = true := by
  rw [List.all_eq_true]
  intro c hc
  obtain ⟨x, -, rfl⟩ := List.mem_map.1 hc
  exact letK_ok k x h1 h4
end Go.Proofs.YthlgdakdjikjhaaDoor
/-
  The order of words: the search finds the first one. No program.
-/
namespace Go.Proofs.YthlgdakdjikjhaaDoor

/-- The order of words: shorter ones first. -/
def ltW (a b : List UInt8) : Prop := a.length < b.length ∨ (a.length = b.length ∧ a < b)
def leW (a b : List UInt8) : Prop := a = b ∨ ltW a b
theorem ltW_trans {a b c : List UInt8} (h : ltW a b) (h2 : ltW b c) : ltW a c := by
  rcases h with h | ⟨h, k⟩ <;> rcases h2 with h2 | ⟨h2, k2⟩
  · exact .inl (by omega)
  · exact .inl (by omega)
  · exact .inl (by omega)
  · exact .inr ⟨by omega, List.lt_trans k k2⟩
theorem ltW_irrefl {a : List UInt8} (h : ltW a a) : False := by
  rcases h with h | ⟨-, h⟩
  · omega
  · exact List.lt_irrefl _ h
theorem leW_refl (a : List UInt8) : leW a a := .inl rfl
theorem leW_trans {a b c : List UInt8} (h : leW a b) (h2 : leW b c) : leW a c := by
  rcases h with rfl | h
  · exact h2
  · rcases h2 with rfl | h2
    · exact .inr h
    · exact .inr (ltW_trans h h2)
theorem leW_not {a b : List UInt8} (h : leW a b) : ¬ ltW b a := by
  rcases h with rfl | h
  · exact ltW_irrefl
  · exact fun h2 => ltW_irrefl (ltW_trans h h2)
theorem lex_snoc : ∀ (a b : List UInt8) (c d : UInt8), a.length = b.length → a < b → a ++ [c] < b ++ [d] := by
  intro a
  induction a with
  | nil => intro b c d hl h; cases b with
    | nil => exact absurd h (List.lt_irrefl _)
    | cons => simp at hl
  | cons x a ih =>
    intro b c d hl h
    cases b with
    | nil => simp at hl
    | cons y b =>
      simp only [List.cons_append, List.cons_lt_cons_iff] at h ⊢
      rcases h with h | ⟨rfl, h⟩
      · exact .inl h
      · exact .inr ⟨rfl, ih b c d (by simpa using hl) h⟩
theorem lex_snoc_eq : ∀ (a : List UInt8) (c d : UInt8), c < d → a ++ [c] < a ++ [d] := by
  intro a
  induction a with
  | nil => intro c d h; exact List.cons_lt_cons_iff.2 (.inl h)
  | cons x a ih => intro c d h; exact List.cons_lt_cons_iff.2 (.inr ⟨rfl, ih c d h⟩)
theorem ltW_snoc {a b : List UInt8} (c d : UInt8) (h : ltW a b) : ltW (a ++ [c]) (b ++ [d]) := by
  rcases h with h | ⟨h, k⟩
  · exact .inl (by simp; omega)
  · exact .inr ⟨by simp; omega, lex_snoc a b c d h k⟩
theorem ltW_snoc_eq (a : List UInt8) {c d : UInt8} (h : c < d) : ltW (a ++ [c]) (a ++ [d]) := .inr ⟨by simp, lex_snoc_eq a c d h⟩
theorem leW_snoc {a b : List UInt8} (c : UInt8) (h : leW a b) : leW (a ++ [c]) (b ++ [c]) := by
  rcases h with rfl | h
  · exact leW_refl _
  · exact .inr (ltW_snoc c c h)

/-- The list of the images is in the order of its words, as far as the search has come: entry i, button b. -/
structure Ord (i b : Nat) (L : List Ent) : Prop where
  sorted : ∀ (j k : Nat) (x y : Ent), j < k → L[j]? = some x → L[k]? = some y → ltW x.word y.word
  par : ∀ (k : Nat) (e : Ent), L[k]? = some e → 1 ≤ k → ∃ (j : Nat) (p : Ent) (c : Nat), L[j]? = some p ∧ e.word = p.word ++ [UInt8.ofNat (97 + c)] ∧ (j < i ∨ (j = i ∧ c < b)) ∧ c < 20
  root : ∀ e : Ent, L[0]? = some e → e.word = []
theorem Ord.start (s : Nat) : Ord 0 0 [⟨s, [], 0, 0⟩] where
  sorted := fun j k x y hjk hj hk => by
    have := (List.getElem?_eq_some_iff.1 hk).1
    simp at this; omega
  par := fun k e hk h1 => by
    have := (List.getElem?_eq_some_iff.1 hk).1
    simp at this; omega
  root := fun e h => by simp at h; subst h; rfl
theorem ofNat_lt {c d : Nat} (h : c < d) (hd : d < 20) : UInt8.ofNat (97 + c) < UInt8.ofNat (97 + d) := by
  rw [UInt8.lt_iff_toNat_lt, UInt8.toNat_ofNat', UInt8.toNat_ofNat']; omega
theorem Ord.below {i b : Nat} {L : List Ent} (h : Ord i b L) {x : Ent} (hx : L[i]? = some x) (hb : b < 20) : ∀ e ∈ L, ltW e.word (x.word ++ [UInt8.ofNat (97 + b)]) := by
  intro e he
  obtain ⟨k, hk⟩ := List.getElem?_of_mem he
  rcases Nat.eq_zero_or_pos k with h0 | h0
  · subst h0
    rw [h.root e hk]
    exact .inl (by simp)
  · obtain ⟨j, p, c, h1, h2, h3, h4⟩ := h.par k e hk h0
    rw [h2]
    rcases h3 with h3 | ⟨h3, h5⟩
    · exact ltW_snoc _ _ (h.sorted j i p x h3 h1 hx)
    · subst h3
      rw [hx] at h1
      cases h1
      exact ltW_snoc_eq _ (ofNat_lt h5 hb)
theorem Ord.grow1 {M : List (List Nat)} {i b : Nat} {L : List Ent} (h : Ord i b L) {x : Ent} (hx : L[i]? = some x) (hb : b < 20) : Ord i (b + 1) (grow1 M x L b) := by
  have hil := (List.getElem?_eq_some_iff.1 hx).1
  unfold YthlgdakdjikjhaaDoor.grow1
  split
  · exact ⟨h.sorted, fun k e hk h1 => by
      obtain ⟨j, p, c, h2, h3, h4, h5⟩ := h.par k e hk h1
      exact ⟨j, p, c, h2, h3, by omega, h5⟩, h.root⟩
  · have hbel := h.below hx hb
    refine ⟨fun j k u v hjk hj hk => ?_, fun k e hk h1 => ?_, fun e he => ?_⟩
    · have hkl := (List.getElem?_eq_some_iff.1 hk).1
      rw [List.length_append, List.length_singleton] at hkl
      have hj2 : L[j]? = some u := by rw [List.getElem?_append_left (by omega)] at hj; exact hj
      rcases Nat.lt_or_ge k L.length with h2 | h2
      · rw [List.getElem?_append_left h2] at hk
        exact h.sorted j k u v hjk hj2 hk
      · have hk0 : k - L.length = 0 := by omega
        rw [List.getElem?_append_right h2, hk0] at hk
        simp only [List.getElem?_cons_zero, Option.some.injEq] at hk
        subst hk
        exact hbel u (List.mem_of_getElem? hj2)
    · have hkl := (List.getElem?_eq_some_iff.1 hk).1
      rw [List.length_append, List.length_singleton] at hkl
      rcases Nat.lt_or_ge k L.length with h2 | h2
      · rw [List.getElem?_append_left h2] at hk
        obtain ⟨j, p, c, h3, h4, h5, h6⟩ := h.par k e hk h1
        exact ⟨j, p, c, app_at h3, h4, by omega, h6⟩
      · have hk0 : k - L.length = 0 := by omega
        rw [List.getElem?_append_right h2, hk0] at hk
        simp only [List.getElem?_cons_zero, Option.some.injEq] at hk
        subst hk
        exact ⟨i, x, b, app_at hx, rfl, .inr ⟨rfl, by omega⟩, hb⟩
    · rw [List.getElem?_append_left (by omega)] at he
      exact h.root e he
theorem Ord.next {i b : Nat} {L : List Ent} (h : Ord i b L) : Ord (i + 1) 0 L := ⟨h.sorted, fun k e hk h1 => by
  obtain ⟨j, p, c, h2, h3, h4, h5⟩ := h.par k e hk h1
  exact ⟨j, p, c, h2, h3, .inl (by omega), h5⟩, h.root⟩
theorem Ord.growF {M : List (List Nat)} {i : Nat} {x : Ent} : ∀ (k b : Nat) (L : List Ent), Ord i b L → L[i]? = some x → b + k ≤ 20 → Ord i (b + k) (growF M x k b L) := by
  intro k
  induction k with
  | zero => intro b L h _ _; exact h
  | succ k ih =>
    intro b L h hx hb
    obtain ⟨T, hT⟩ := grow1_app M x L b
    have := ih (b + 1) _ (h.grow1 (M := M) hx (by omega)) (by rw [hT]; exact app_at hx) (by omega)
    rw [show b + (k + 1) = b + 1 + k by omega]
    exact this
theorem grow1_le {M : List (List Nat)} {i b : Nat} {x : Ent} {L : List Ent} (h : Ord i b L) (hx : L[i]? = some x) (hb : b < 20) : ∃ y ∈ grow1 M x L b, y.set = press M x.set b ∧ leW y.word (x.word ++ [UInt8.ofNat (97 + b)]) := by
  unfold grow1
  split
  · rename_i h1
    obtain ⟨y, hy, he⟩ := List.any_eq_true.1 h1
    exact ⟨y, hy, by simpa using he, .inr (h.below hx hb y hy)⟩
  · exact ⟨_, List.mem_append_right _ (List.mem_singleton.2 rfl), rfl, leW_refl _⟩
theorem growF_le {M : List (List Nat)} {i : Nat} {x : Ent} : ∀ (k b : Nat) (L : List Ent) (j : Nat), Ord i b L → L[i]? = some x → b + k ≤ 20 → b ≤ j → j < b + k → ∃ y ∈ growF M x k b L, y.set = press M x.set j ∧ leW y.word (x.word ++ [UInt8.ofNat (97 + j)]) := by
  intro k
  induction k with
  | zero => intro b L j _ _ _ h1 h2; omega
  | succ k ih =>
    intro b L j hO hx hb h1 h2
    rw [growF]
    rcases Nat.eq_or_lt_of_le h1 with h | h
    · subst h
      obtain ⟨y, hy, he⟩ := grow1_le (M := M) hO hx (by omega)
      obtain ⟨T, hT⟩ := growF_app M x k (b + 1) (grow1 M x L b)
      exact ⟨y, by rw [hT]; exact List.mem_append_left _ hy, he⟩
    · obtain ⟨T, hT⟩ := grow1_app M x L b
      exact ih (b + 1) _ j (hO.grow1 hx (by omega)) (by rw [hT]; exact app_at hx) (by omega) h (by omega)
theorem bfsF_le {M : List (List Nat)} {s : Nat} (hM : OkM M) : ∀ (f i : Nat) (L : List Ent), Good M s L → Ord i 0 L → 513 ≤ f + i → (∀ (j : Nat) (x : Ent) (b : Nat), L[j]? = some x → j < i → b < M.length → ∃ y ∈ L, y.set = press M x.set b ∧ leW y.word (x.word ++ [UInt8.ofNat (97 + b)])) →
    (∀ x ∈ bfsF M f i L, ∀ b, b < M.length → ∃ y ∈ bfsF M f i L, y.set = press M x.set b ∧ leW y.word (x.word ++ [UInt8.ofNat (97 + b)])) ∧ ∃ i', Ord i' 0 (bfsF M f i L) := by
  have hm4 := hM.b4
  intro f
  induction f with
  | zero =>
    intro i L hg hO hi h
    refine ⟨fun x hx b hb => ?_, i, hO⟩
    obtain ⟨j, hj, rfl⟩ := List.getElem_of_mem hx
    have hj' : j < L.length := hj
    have hl := hg.len hM
    exact h j _ b (List.getElem?_eq_getElem hj) (by omega) hb
  | succ f ih =>
    intro i L hg hO hi h
    rw [YthlgdakdjikjhaaDoor.bfsF]
    cases hx : L[i]? with
    | none =>
      refine ⟨fun x hx' b hb => ?_, i, hO⟩
      obtain ⟨j, hj, rfl⟩ := List.getElem_of_mem hx'
      have hj' : j < L.length := hj
      have hil : L.length ≤ i := by
        rcases Nat.lt_or_ge i L.length with h1 | h1
        · rw [List.getElem?_eq_getElem h1] at hx; cases hx
        · exact h1
      exact h j _ b (List.getElem?_eq_getElem hj) (by omega) hb
    | some x0 =>
      refine ih (i + 1) _ (hg.growF hM M.length 0 L hx (by omega)) (hO.growF M.length 0 L hx (by omega)).next (by omega) fun j x b hj hji hb => ?_
      obtain ⟨T, hT⟩ := growF_app M x0 M.length 0 L
      have hil := (List.getElem?_eq_some_iff.1 hx).1
      rcases Nat.lt_or_ge j i with h1 | h1
      · have hj2 : L[j]? = some x := by rw [hT, List.getElem?_append_left (by omega)] at hj; exact hj
        obtain ⟨y, hy, he⟩ := h j x b hj2 h1 hb
        exact ⟨y, by rw [hT]; exact List.mem_append_left _ hy, he⟩
      · have hji2 : j = i := by omega
        subst hji2
        have : x = x0 := by
          rw [hT, app_at hx] at hj
          exact (Option.some.inj hj).symm
        subst this
        exact growF_le M.length 0 L b hO hx (by omega) (by omega) (by omega)
theorem reach_le1 {M : List (List Nat)} (hM : OkM M) {s : Nat} (hs : s < 2 ^ nst M) : (∀ x ∈ reach M s, ∀ b, b < M.length → ∃ y ∈ reach M s, y.set = press M x.set b ∧ leW y.word (x.word ++ [UInt8.ofNat (97 + b)])) ∧ ∃ i', Ord i' 0 (reach M s) :=
  bfsF_le hM 513 0 _ (Good.start M s hs) (Ord.start s) (by omega) fun j x b _ hj _ => by omega
theorem reach_le2 {M : List (List Nat)} (hM : OkM M) {s : Nat} (hs : s < 2 ^ nst M) : ∀ (l : List UInt8), l.all (letB M.length) = true → ∀ x ∈ reach M s, ∀ u, leW x.word u → ∃ y ∈ reach M s, y.set = imgW M x.set l ∧ leW y.word (u ++ l) := by
  intro l
  induction l with
  | nil => intro _ x hx u hu; exact ⟨x, hx, rfl, by rw [List.append_nil]; exact hu⟩
  | cons c l ih =>
    intro hl x hx u hu
    rw [List.all_cons, Bool.and_eq_true] at hl
    have hc := (letB_iff _ _).1 hl.1
    obtain ⟨y, hy, he, hle⟩ := (reach_le1 hM hs).1 x hx (c.toNat - 97) (by omega)
    rw [show UInt8.ofNat (97 + (c.toNat - 97)) = c by rw [show 97 + (c.toNat - 97) = c.toNat by omega]; exact UInt8.ofNat_toNat] at hle
    obtain ⟨z, hz, hz2, hz3⟩ := ih hl.2 y hy (u ++ [c]) (leW_trans hle (leW_snoc c hu))
    exact ⟨z, hz, by rw [hz2, he]; rfl, by simpa using hz3⟩
/-- Whatever a word leads to is reached by a word that is no later. -/
theorem reach_le {M : List (List Nat)} (hM : OkM M) {s : Nat} (hs : s < 2 ^ nst M) (l : List UInt8) (hl : l.all (letB M.length) = true) : ∃ y ∈ reach M s, y.set = imgW M s l ∧ leW y.word l := by
  have hh := (reach_good hM hs).head
  obtain ⟨y, hy, he, hle⟩ := reach_le2 hM hs l hl ⟨s, [], 0, 0⟩ (List.mem_of_getElem? hh) [] (leW_refl _)
  exact ⟨y, hy, he, by simpa using hle⟩
/-- The first image that is wanted has the first word. -/
theorem firstE_le {M : List (List Nat)} (hM : OkM M) {s : Nat} (hs : s < 2 ^ nst M) {wt : Nat → Bool} {l : List UInt8} (hl : l.all (letB M.length) = true) (h : wt (imgW M s l) = true) : ∃ x, firstE M s wt = some x ∧ leW x.word l := by
  obtain ⟨y, hy, he, hle⟩ := reach_le hM hs l hl
  obtain ⟨i', hO⟩ := (reach_le1 hM hs).2
  obtain ⟨k, hk⟩ := List.getElem?_of_mem hy
  cases hf : firstE M s wt with
  | none =>
    unfold firstE at hf
    rw [List.find?_eq_none] at hf
    exact absurd (by rw [he]; exact h) (hf y hy)
  | some x =>
    refine ⟨x, rfl, ?_⟩
    unfold firstE at hf
    rw [List.find?_eq_some_iff_getElem] at hf
    obtain ⟨-, j, hj, hj2, hlt⟩ := hf
    have hkl := (List.getElem?_eq_some_iff.1 hk).1
    have hk2 := (List.getElem?_eq_some_iff.1 hk).2
    have hjk : j ≤ k := by
      rcases Nat.lt_or_ge k j with h1 | h1
      · have := hlt k h1
        rw [hk2, he, h] at this; cases this
      · exact h1
    rcases Nat.eq_or_lt_of_le hjk with h1 | h1
    · subst h1
      rw [hk2] at hj2
      subst hj2
      exact hle
    · exact leW_trans (.inr (hO.sorted j k x y h1 (by rw [List.getElem?_eq_getElem hj, hj2]) hk)) hle

/-- The model's order of strings. -/
theorem bytesLess_lt : ∀ (x y : List UInt8), Op.bytesLess x y = decide (x < y)
  | [], [] => by simp [Op.bytesLess]
  | _ :: _, [] => by simp [Op.bytesLess]
  | [], _ :: _ => by simp [Op.bytesLess]
  | a :: x, b :: y => by
    rw [Op.bytesLess, bytesLess_lt x y]
    simp only [List.cons_lt_cons_iff]
    by_cases h1 : a < b <;> by_cases h2 : a = b <;> by_cases h3 : x < y <;> simp [h1, h2, h3]
end Go.Proofs.YthlgdakdjikjhaaDoor
/-
  States that words lead together: plain facts. No program.
-/
namespace Go.Proofs.YthlgdakdjikjhaaDoor

/-- What the first wanted image is like. -/
theorem firstE_word {M : List (List Nat)} (hM : OkM M) {s : Nat} (hs : s < 2 ^ nst M) {wt : Nat → Bool} {x : Ent} (h : firstE M s wt = some x) : x.word.all (letB M.length) = true ∧ imgW M s x.word = x.set ∧ wt x.set = true ∧ x.word.length ≤ 511 := by
  have hx := List.mem_of_find?_eq_some h
  have hw : wt x.set = true := by have := List.find?_some h; exact this
  obtain ⟨j, hj, he⟩ := List.getElem_of_mem hx
  have hg := reach_good hM hs
  have he2 : (reach M s)[j]? = some x := by rw [List.getElem?_eq_getElem hj, he]
  obtain ⟨k1, k2⟩ := hg.word hM.b4 j x he2
  have := hg.wlen j x he2
  have := hg.len hM
  exact ⟨k1, k2, hw, by omega⟩
theorem firstE_some {M : List (List Nat)} (hM : OkM M) {s : Nat} (hs : s < 2 ^ nst M) {wt : Nat → Bool} {l : List UInt8} (hl : l.all (letB M.length) = true) (h : wt (imgW M s l) = true) : (firstE M s wt).isSome = true := by
  obtain ⟨y, hy, he⟩ := reach_all hM hs l hl
  unfold firstE
  rw [List.find?_isSome]
  exact ⟨y, hy, by rw [he]; exact h⟩
theorem pairN_bit (p q t : Nat) : (pairN p q).testBit t = true ↔ t = p ∨ t = q := by
  unfold pairN
  rw [Nat.testBit_or, Bool.or_eq_true, Nat.testBit_two_pow, Nat.testBit_two_pow]
  simp only [decide_eq_true_eq]
  constructor
  · rintro (h | h)
    · exact .inl h.symm
    · exact .inr h.symm
  · rintro (h | h)
    · exact .inl h.symm
    · exact .inr h.symm
theorem pairN_comm (p q : Nat) : pairN p q = pairN q p := Nat.or_comm ..
theorem sizeN_pow : ∀ p : Nat, p < 9 → sizeN (2 ^ p) = 1 := by decide
theorem pair_self {M : List (List Nat)} (hM : OkM M) {p : Nat} (hp : p < nst M) : firstE M (pairN p p) oneB = some ⟨pairN p p, [], 0, 0⟩ := by
  have hh := (reach_good hM (pairN_lt hp hp)).head
  have h1 : oneB (pairN p p) = true := by
    unfold oneB pairN
    rw [Nat.or_self, sizeN_pow p (by have := hM.n9; omega)]; rfl
  unfold firstE
  cases hr : reach M (pairN p p) with
  | nil => rw [hr] at hh; cases hh
  | cons e L =>
    rw [hr] at hh
    simp only [List.getElem?_cons_zero, Option.some.injEq] at hh
    subst hh
    simp only [List.find?_cons, h1]
theorem allS_bit {M : List (List Nat)} (q : Nat) : (allS M).testBit q = true ↔ q < nst M := by
  unfold allS; rw [Nat.testBit_two_pow_sub_one]; simp
theorem ne_zero_bit {s q : Nat} (h : s.testBit q = true) : s ≠ 0 := fun e => by subst e; simp at h
theorem bit_of_ne {s : Nat} (h : s ≠ 0) : ∃ q, s.testBit q = true := Nat.exists_testBit_of_ne_zero h
theorem imgW_ne {M : List (List Nat)} (hM : OkM M) {l : List UInt8} {s : Nat} (hl : l.all (letB M.length) = true) (hs : s < 2 ^ nst M) (h0 : s ≠ 0) : imgW M s l ≠ 0 := by
  obtain ⟨q, hq⟩ := bit_of_ne h0
  exact ne_zero_bit ((imgW_bit hM l s (tr M q l) hl hs).2 ⟨q, hq, rfl⟩)
theorem size_one {M : List (List Nat)} (hM : OkM M) {s p q : Nat} (hs : s < 2 ^ nst M) (h : sizeN s = 1) (hp : s.testBit p = true) (hq : s.testBit q = true) : p = q := by
  have h1 := (listN_bit hM hs p).2 hp
  have h2 := (listN_bit hM hs q).2 hq
  obtain ⟨x, hx⟩ := List.length_eq_one_iff.1 h
  rw [hx, List.mem_singleton] at h1 h2
  rw [h1, h2]
/-- A word leads two states together exactly if it leads their set to one state. -/
theorem meet_iff {M : List (List Nat)} (hM : OkM M) {l : List UInt8} {p q : Nat} (hl : l.all (letB M.length) = true) (hp : p < nst M) (hq : q < nst M) (h : sizeN (imgW M (pairN p q) l) = 1) : tr M p l = tr M q l := by
  have hs := pairN_lt hp hq
  exact size_one hM (imgW_lt hM l _ hs) h ((imgW_bit hM l _ _ hl hs).2 ⟨p, (pairN_bit p q p).2 (.inl rfl), rfl⟩) ((imgW_bit hM l _ _ hl hs).2 ⟨q, (pairN_bit p q q).2 (.inr rfl), rfl⟩)
theorem merge_all {M : List (List Nat)} (hM : OkM M) (H : ∀ p q, q ≤ p → p < nst M → (firstE M (pairN p q) oneB).isSome = true) : ∀ (k s : Nat), s < 2 ^ nst M → s ≠ 0 → sizeN s ≤ k → ∃ l : List UInt8, l.all (letB M.length) = true ∧ sizeN (imgW M s l) = 1 := by
  intro k
  induction k with
  | zero =>
    intro s hs h0 h
    have := sizeN_pos s (lt512 hM hs) h0
    omega
  | succ k ih =>
    intro s hs h0 h
    have hp1 := sizeN_pos s (lt512 hM hs) h0
    by_cases h1 : sizeN s = 1
    · exact ⟨[], rfl, h1⟩
    · obtain ⟨a, b, L, hL⟩ : ∃ a b L, listN s = a :: b :: L := by
        unfold sizeN at h1 hp1
        match hc : listN s with
        | [] => rw [hc] at hp1; simp at hp1
        | [x] => rw [hc] at h1; simp at h1
        | a :: b :: L => exact ⟨a, b, L, rfl⟩
      have hn := listN_nodup s
      rw [hL] at hn
      have hab : a ≠ b := fun e => (List.nodup_cons.1 hn).1 (by rw [e]; exact List.mem_cons_self ..)
      have ha := (listN_bit hM hs a).1 (by rw [hL]; exact List.mem_cons_self ..)
      have hb := (listN_bit hM hs b).1 (by rw [hL]; exact List.mem_cons_of_mem _ (List.mem_cons_self ..))
      have ha' := bit_lt hs ha
      have hb' := bit_lt hs hb
      have hsome : (firstE M (pairN a b) oneB).isSome = true := by
        rcases Nat.le_total b a with h2 | h2
        · exact H a b h2 ha'
        · rw [pairN_comm]; exact H b a h2 hb'
      obtain ⟨x, hx⟩ := Option.isSome_iff_exists.1 hsome
      obtain ⟨w1, w2, w3, -⟩ := firstE_word hM (pairN_lt ha' hb') hx
      have hm := meet_iff hM w1 ha' hb' (by rw [w2]; simpa [oneB] using w3)
      have hlt := sizeN_meet hM w1 hs ha hb hab hm
      obtain ⟨l, hl, hl2⟩ := ih (imgW M s x.word) (imgW_lt hM _ _ hs) (imgW_ne hM w1 hs h0) (by omega)
      exact ⟨x.word ++ l, by rw [List.all_append, w1, hl]; rfl, by rw [imgW_app]; exact hl2⟩
/-- A machine can be reset exactly if every two states can be led together. -/
theorem reset_iff {M : List (List Nat)} (hM : OkM M) : (∀ p q, q ≤ p → p < nst M → (firstE M (pairN p q) oneB).isSome = true) ↔ (firstE M (allS M) oneB).isSome = true := by
  constructor
  · intro H
    obtain ⟨l, hl, h1⟩ := merge_all hM H (sizeN (allS M)) (allS M) (allS_lt hM) (allS_ne hM) (Nat.le_refl _)
    exact firstE_some hM (allS_lt hM) hl (by simp [oneB, h1])
  · intro H p q hqp hp
    obtain ⟨x, hx⟩ := Option.isSome_iff_exists.1 H
    obtain ⟨w1, w2, w3, -⟩ := firstE_word hM (allS_lt hM) hx
    have hs := pairN_lt (n := nst M) (p := p) (q := q) hp (by omega)
    refine firstE_some hM hs w1 ?_
    have h1 : sizeN (imgW M (pairN p q) x.word) ≤ sizeN (imgW M (allS M) x.word) := sizeN_sub fun t ht => by
      obtain ⟨r, h1, h2⟩ := (imgW_bit hM _ _ t w1 hs).1 ht
      refine (imgW_bit hM _ _ t w1 (allS_lt hM)).2 ⟨r, (allS_bit r).2 ?_, h2⟩
      rcases (pairN_bit p q r).1 h1 with e | e <;> omega
    have h2 := sizeN_pos _ (lt512 hM (imgW_lt hM x.word _ hs)) (imgW_ne hM w1 hs (pairN_ne p q))
    have h3 : sizeN x.set = 1 := by simpa [oneB] using w3
    rw [w2, h3] at h1
    simp only [oneB, beq_iff_eq]
    omega
end Go.Proofs.YthlgdakdjikjhaaDoor
/-
  The least word that resets a machine has at most (n^3 - n) / 6 buttons. No program.
-/
namespace Go.Proofs.YthlgdakdjikjhaaDoor

/-- The states that a set lacks. -/
def coN (n s : Nat) : List Nat := (List.range n).filter fun q => !s.testBit q
theorem filter_split (f : Nat → Bool) : ∀ l : List Nat, (l.filter f).length + (l.filter fun q => !f q).length = l.length := by
  intro l
  induction l with
  | nil => rfl
  | cons a r ih =>
    cases h : f a <;> simp [h] <;> omega
theorem listN_range {n s : Nat} (h9 : n ≤ 9) (hs : s < 2 ^ n) : sizeN s = ((List.range n).filter s.testBit).length := by
  unfold sizeN listN
  obtain ⟨k, hk⟩ : ∃ k, 9 = n + k := ⟨9 - n, by omega⟩
  rw [hk, List.range_add, List.filter_append, List.length_append]
  have : ((List.range k).map (n + ·)).filter s.testBit = [] := by
    rw [List.filter_eq_nil_iff]
    intro q hq
    obtain ⟨j, -, rfl⟩ := List.mem_map.1 hq
    rw [Nat.testBit_lt_two_pow (Nat.lt_of_lt_of_le hs (Nat.pow_le_pow_right (by omega) (by omega)))]
    simp
  rw [this, List.length_nil, Nat.add_zero]
theorem coN_len {n s : Nat} (h9 : n ≤ 9) (hs : s < 2 ^ n) : (coN n s).length + sizeN s = n := by
  have := filter_split s.testBit (List.range n)
  rw [List.length_range] at this
  rw [listN_range h9 hs]
  unfold coN
  omega
theorem coN_mem {n s q : Nat} (hq : q < n) : q ∈ coN n s ↔ s.testBit q = false := by
  unfold coN
  rw [List.mem_filter, List.mem_range]
  simp [hq]
theorem all_take {l : List UInt8} {f : UInt8 → Bool} (h : l.all f = true) (k : Nat) : (l.take k).all f = true := by
  rw [List.all_eq_true] at h ⊢
  exact fun x hx => h x (List.mem_of_mem_take hx)
theorem all_drop {l : List UInt8} {f : UInt8 → Bool} (h : l.all f = true) (k : Nat) : (l.drop k).all f = true := by
  rw [List.all_eq_true] at h ⊢
  exact fun x hx => h x (List.mem_of_mem_drop hx)
/-- If an image is smaller, two states meet. -/
theorem img_meet {M : List (List Nat)} (hM : OkM M) {s : Nat} {l : List UInt8} (hl : l.all (letB M.length) = true) (hs : s < 2 ^ nst M) (h : sizeN (imgW M s l) < sizeN s) : ∃ p q, s.testBit p = true ∧ s.testBit q = true ∧ p ≠ q ∧ tr M p l = tr M q l := by
  refine Classical.byContradiction fun hn => ?_
  have hinj : ∀ p q, s.testBit p = true → s.testBit q = true → tr M p l = tr M q l → p = q := fun p q hp hq he => Classical.byContradiction fun hne => hn ⟨p, q, hp, hq, hne, he⟩
  have hnd : ((listN s).map fun q => tr M q l).Nodup := by
    refine List.pairwise_map.2 (List.Pairwise.imp_of_mem (fun {p q} hp hq hne he => hne ?_) (listN_nodup s))
    exact hinj p q ((listN_bit hM hs p).1 hp) ((listN_bit hM hs q).1 hq) he
  have := len_sub _ (listN (imgW M s l)) hnd fun t ht => by
    obtain ⟨q, hq, rfl⟩ := List.mem_map.1 ht
    exact (listN_bit hM (imgW_lt hM l s hs) _).2 ((imgW_bit hM l s _ hl hs).2 ⟨q, (listN_bit hM hs q).1 hq, rfl⟩)
  rw [List.length_map] at this
  unfold sizeN at h
  omega
/-- A word that makes a set of k states smaller, of at most (n - k + 1) (n - k + 2) / 2 buttons. -/
theorem compress {M : List (List Nat)} (hM : OkM M) {s : Nat} (hs : s < 2 ^ nst M) (hx : ∃ l : List UInt8, l.all (letB M.length) = true ∧ sizeN (imgW M s l) < sizeN s) :
    ∃ l : List UInt8, l.all (letB M.length) = true ∧ sizeN (imgW M s l) < sizeN s ∧ 2 * l.length ≤ (nst M - sizeN s + 1) * (nst M - sizeN s + 2) := by
  have hmin : ∃ l : List UInt8, (l.all (letB M.length) = true ∧ sizeN (imgW M s l) < sizeN s) ∧ ∀ u : List UInt8, u.all (letB M.length) = true → sizeN (imgW M s u) < sizeN s → l.length ≤ u.length := by
    obtain ⟨l0, h0⟩ := hx
    have : ∀ (k : Nat) (l : List UInt8), l.length ≤ k → l.all (letB M.length) = true ∧ sizeN (imgW M s l) < sizeN s → ∃ l : List UInt8, (l.all (letB M.length) = true ∧ sizeN (imgW M s l) < sizeN s) ∧ ∀ u : List UInt8, u.all (letB M.length) = true → sizeN (imgW M s u) < sizeN s → l.length ≤ u.length := by
      intro k
      induction k with
      | zero => intro l hk h; exact ⟨l, h, fun u _ _ => by omega⟩
      | succ k ih =>
        intro l hk h
        by_cases hb : ∃ u : List UInt8, u.all (letB M.length) = true ∧ sizeN (imgW M s u) < sizeN s ∧ u.length < l.length
        · obtain ⟨u, h1, h2, h3⟩ := hb
          exact ih u (by omega) ⟨h1, h2⟩
        · refine ⟨l, h, fun u h1 h2 => ?_⟩
          rcases Nat.lt_or_ge u.length l.length with h3 | h3
          · exact absurd ⟨u, h1, h2, h3⟩ hb
          · exact h3
    exact this l0.length l0 (Nat.le_refl _) h0
  obtain ⟨l, ⟨hl, hlt⟩, hmn⟩ := hmin
  refine ⟨l, hl, hlt, ?_⟩
  obtain ⟨p, q, hp, hq, hne, hm⟩ := img_meet hM hl hs hlt
  have hsz : ∀ i, i < l.length → sizeN (imgW M s (l.take i)) = sizeN s := fun i hi => by
    have h1 := sizeN_img hM (all_take hl i) hs
    rcases Nat.lt_or_ge (sizeN (imgW M s (l.take i))) (sizeN s) with h2 | h2
    · have := hmn _ (all_take hl i) h2
      rw [List.length_take] at this; omega
    · omega
  have hlen : ∀ i, i < l.length → (coN (nst M) (imgW M s (l.take i))).length = nst M - sizeN s := fun i hi => by
    have := coN_len hM.n9 (imgW_lt hM (l.take i) s hs)
    rw [hsz i hi] at this; omega
  have hin : ∀ r, s.testBit r = true → ∀ i, (imgW M s (l.take i)).testBit (tr M r (l.take i)) = true := fun r hr i =>
    (imgW_bit hM _ _ _ (all_take hl i) hs).2 ⟨r, hr, rfl⟩
  have hlt2 : ∀ r, s.testBit r = true → ∀ i, tr M r (l.take i) < nst M := fun r hr i => bit_lt (imgW_lt hM (l.take i) s hs) (hin r hr i)
  refine skew_pairs (nst M - sizeN s) l.length (fun i => coN (nst M) (imgW M s (l.take i))) (fun i => tr M p (l.take i)) (fun i => tr M q (l.take i)) hlen ?_ ?_
  · intro i j hij hj
    refine Classical.byContradiction fun hno => ?_
    have hno1 : ¬ tr M p (l.take j) ∈ coN (nst M) (imgW M s (l.take i)) := fun h => hno (.inl h)
    have hno2 : ¬ tr M q (l.take j) ∈ coN (nst M) (imgW M s (l.take i)) := fun h => hno (.inr h)
    rw [coN_mem (hlt2 p hp j)] at hno1
    rw [coN_mem (hlt2 q hq j)] at hno2
    have b1 : (imgW M s (l.take i)).testBit (tr M p (l.take j)) = true := by simpa using hno1
    have b2 : (imgW M s (l.take i)).testBit (tr M q (l.take j)) = true := by simpa using hno2
    have hne2 : tr M p (l.take j) ≠ tr M q (l.take j) := fun e => by
      have := sizeN_meet hM (all_take hl j) hs hp hq hne e
      rw [hsz j hj] at this; omega
    have hmt : tr M (tr M p (l.take j)) (l.drop j) = tr M (tr M q (l.take j)) (l.drop j) := by
      rw [← tr_app, ← tr_app, List.take_append_drop]; exact hm
    have h1 := sizeN_meet hM (all_drop hl j) (imgW_lt hM (l.take i) s hs) b1 b2 hne2 hmt
    rw [hsz i (by omega), ← imgW_app] at h1
    have h2 := hmn _ (by rw [List.all_append, all_take hl i, all_drop hl j]; rfl) h1
    rw [List.length_append, List.length_take, List.length_drop] at h2
    omega
  · intro i hi
    refine ⟨fun h => ?_, fun h => ?_⟩
    · rw [coN_mem (hlt2 p hp i), hin p hp i] at h; cases h
    · rw [coN_mem (hlt2 q hq i), hin q hq i] at h; cases h
/-- The sum of the bounds from one state to k. -/
def sumB (n : Nat) : Nat → Nat
  | 0 => 0
  | 1 => 0
  | k + 2 => sumB n (k + 1) + (n - (k + 2) + 1) * (n - (k + 2) + 2)
theorem sumB_mono (n : Nat) : ∀ (d k : Nat), sumB n k ≤ sumB n (k + d) := by
  intro d
  induction d with
  | zero => intro k; exact Nat.le_refl _
  | succ d ih =>
    intro k
    have h1 := ih k
    have h2 : sumB n (k + d) ≤ sumB n (k + d + 1) := by
      rcases Nat.eq_zero_or_pos (k + d) with h | h
      · rw [h]; exact Nat.zero_le _
      · obtain ⟨j, hj⟩ : ∃ j, k + d = j + 1 := ⟨k + d - 1, by omega⟩
        rw [hj]; exact Nat.le_add_right _ _
    exact Nat.le_trans h1 h2
theorem sumB_top : ∀ n : Nat, n < 10 → sumB n n = 2 * ((n * n * n - n) / 6) := by decide
theorem reset_len {M : List (List Nat)} (hM : OkM M) (H : ∀ p q, q ≤ p → p < nst M → (firstE M (pairN p q) oneB).isSome = true) : ∀ (k s : Nat), s < 2 ^ nst M → s ≠ 0 → sizeN s ≤ k →
    ∃ l : List UInt8, l.all (letB M.length) = true ∧ sizeN (imgW M s l) = 1 ∧ 2 * l.length ≤ sumB (nst M) k := by
  intro k
  induction k with
  | zero =>
    intro s hs h0 h
    have := sizeN_pos s (lt512 hM hs) h0
    omega
  | succ k ih =>
    intro s hs h0 h
    have hp1 := sizeN_pos s (lt512 hM hs) h0
    rcases Nat.lt_or_ge (sizeN s) (k + 1) with hk | hk
    · obtain ⟨l, h1, h2, h3⟩ := ih s hs h0 (by omega)
      exact ⟨l, h1, h2, Nat.le_trans h3 (sumB_mono _ 1 k)⟩
    · rcases Nat.eq_zero_or_pos k with h00 | h00
      · subst h00
        exact ⟨[], rfl, by show sizeN s = 1; omega, by simp⟩
      · obtain ⟨j, rfl⟩ : ∃ j, k = j + 1 := ⟨k - 1, by omega⟩
        obtain ⟨l0, a1, a2⟩ := merge_all hM H (sizeN s) s hs h0 (Nat.le_refl _)
        obtain ⟨l, h1, h2, h3⟩ := compress hM hs ⟨l0, a1, by omega⟩
        have hke : sizeN s = j + 2 := by omega
        rw [hke] at h2 h3
        obtain ⟨u, g1, g2, g3⟩ := ih (imgW M s l) (imgW_lt hM l s hs) (imgW_ne hM h1 hs h0) (by omega)
        refine ⟨l ++ u, by rw [List.all_append, h1, g1]; rfl, by rw [imgW_app]; exact g2, ?_⟩
        rw [List.length_append]
        show _ ≤ sumB (nst M) (j + 1) + (nst M - (j + 2) + 1) * (nst M - (j + 2) + 2)
        omega
theorem allS_size {M : List (List Nat)} (hM : OkM M) : sizeN (allS M) = nst M := by
  rw [listN_range hM.n9 (allS_lt hM), List.filter_eq_self.2, List.length_range]
  intro q hq
  exact (allS_bit q).2 (List.mem_range.1 hq)
/-- The word of Reset is short. -/
theorem reset_short {M : List (List Nat)} (hM : OkM M) {x : Ent} (h : firstE M (allS M) oneB = some x) : x.word.length ≤ (nst M * nst M * nst M - nst M) / 6 := by
  obtain ⟨l, h1, h2, h3⟩ := reset_len hM (reset_iff hM |>.2 (by rw [h]; rfl)) (nst M) (allS M) (allS_lt hM) (allS_ne hM) (by rw [allS_size hM]; exact Nat.le_refl _)
  obtain ⟨y, hy, hle⟩ := firstE_le hM (allS_lt hM) (wt := oneB) h1 (by simp [oneB, h2])
  rw [h] at hy
  cases hy
  have h4 := sumB_top (nst M) (by have := hM.n9; omega)
  have h5 : x.word.length ≤ l.length := by
    rcases hle with h | h | ⟨h, -⟩
    · rw [h]; exact Nat.le_refl _
    · omega
    · omega
  omega
end Go.Proofs.YthlgdakdjikjhaaDoor
/-
  Walks: the reference's words and images.
-/
namespace Go.Proofs.YthlgdakdjikjhaaDoor
open Go.RowKit Go.ChangeMaps
attribute [local go_sem] Oper.semAt_some

/-- A word of a machine with n buttons. -/
def wordB (n : Nat) (l : List UInt8) : Bool := l.all (letB n) && decide (l.length ≤ 1000)

set_option maxHeartbeats 1000000 in
theorem refWord_any (a : Option Addr) (n c : Nat) (s : ByteArray) (w : World) (hs : s.size ≤ maxLen) (_hn : n ≤ 1000) :
    Calls Tryd.prog 27 #[.slice a n c, .string s] w fun e w' => e = .returned (.bool (wordB n s.data.toList)) ∧ w = w' := by
  have hmx : maxLen ≤ 9223372036854775807 := by decide
  have HF0 := hid (show wordB n s.data.toList = ((s.data.toList.drop 0).all (letB n) && decide (s.size ≤ 1000)) by rw [List.drop_zero]; rfl)
  go_enter Tryd.func27, Tryd.ntmps27
  go_wp2_with fail
  go_loop [5] (fun iv => ∃ i : Nat, i ≤ s.size ∧ iv = .int .i64 i ∧ Hid (wordB n s.data.toList = ((s.data.toList.drop i).all (letB n) && decide (s.size ≤ 1000)))) (fun iv => s.size - (intOf iv).toNat)
  case atStart => exact ⟨0, by omega, rfl, HF0⟩
  case round =>
    obtain ⟨i, hi, rfl, H⟩ := hrel
    by_cases hlt : i < s.size
    · have hd := bytes_drop s i hlt
      have HD := hid hd
      have hc := s[i].toNat_lt
      clear hd
      obtain ⟨ch, hch⟩ : ∃ ch, ch = s[i] := ⟨_, rfl⟩
      rw [← hch] at HD hc
      have HCH := hid hch
      have hcn : ((s[i].toNat : Nat) : Int) = (ch.toNat : Int) := by rw [hch]
      clear hch
      by_cases h1 : ch.toNat < 97
      · have hfin : wordB n s.data.toList = false := by
          rw [H.out, HD.out, List.all_cons, show letB n ch = false by simp [letB]; omega]; simp
        have HF := hid hfin
        clear hfin
        go_wp2_with fail
        go_ret
        exact ⟨ret_bool HF.out.symm, rfl⟩
      · have e1 : IntKind.u8.wrap ((ch.toNat : Int) - 97) = ((ch.toNat - 97 : Nat) : Int) := by rw [IntWalk.u8_in _ (by omega)]; omega
        obtain ⟨d, hd⟩ : ∃ d, d = ch.toNat - 97 := ⟨_, rfl⟩
        rw [← hd] at e1
        have HDD := hid hd
        have hd2 : d < 256 := by omega
        clear hd
        by_cases h2 : d < n
        · have hfin : wordB n s.data.toList = ((s.data.toList.drop (i + 1)).all (letB n) && decide (s.size ≤ 1000)) := by
            rw [H.out, HD.out, List.all_cons, show letB n ch = true by simp [letB]; have := HDD.out; omega]; simp
          have HF := hid hfin
          clear hfin
          go_wp2_with fail
          exact ⟨⟨i + 1, by omega, by go_num, HF⟩, by simp [intOf]; omega⟩
        · have hfin : wordB n s.data.toList = false := by
            rw [H.out, HD.out, List.all_cons, show letB n ch = false by simp [letB]; have := HDD.out; omega]; simp
          have HF := hid hfin
          clear hfin
          go_wp2_with fail
          go_ret
          exact ⟨ret_bool HF.out.symm, rfl⟩
    · have hfin : wordB n s.data.toList = decide (s.size ≤ 1000) := by
        rw [H.out, bytes_drop_end s i (by omega)]; simp
      have HF := hid hfin
      clear hfin
      go_wp2_with fail
      go_ret
      exact ⟨ret_bool (by rw [HF.out]; exact decide_eq_decide.2 (by omega)), rfl⟩

set_option maxHeartbeats 1000000 in
theorem refImage_any (a : Option Addr) (c : Nat) (M : List (List Nat)) (x : Nat) (s : ByteArray) (w : World) (hM : OkM M) (hr : RowsAt w a (intM M)) (hx : x < 512) (hs : s.size ≤ maxLen) (hl : s.data.toList.all (letB M.length) = true) :
    Calls Tryd.prog 29 #[.slice a M.length c, .int .i64 x, .string s] w fun e w' => e = .returned (.int .i64 (imgW M x s.data.toList)) ∧ w = w' := by
  have hmx : maxLen ≤ 9223372036854775807 := by decide
  have C := hid (fun (y b : Nat) (hy : y < 512) (hb : b < M.length) => refPress_any a c M y b w hM hr hy hb)
  have HP := hid (fun (y b : Nat) => lt512 hM (press_lt hM y b))
  have HL := hid hl
  have hm4 := hM.b4
  clear hM hr hl
  go_enter Tryd.func29, Tryd.ntmps29
  go_wp2_with fail
  go_loop [1, 7] (fun sv iv => ∃ i y : Nat, i ≤ s.size ∧ iv = .int .i64 i ∧ sv = .int .i64 y ∧ y < 512 ∧ Hid (imgW M x s.data.toList = imgW M y (s.data.toList.drop i))) (fun _ iv => s.size - (intOf iv).toNat)
  case atStart => exact ⟨0, x, by omega, rfl, rfl, hx, by rw [Hid, List.drop_zero]⟩
  case round =>
    obtain ⟨i, y, hi, rfl, rfl, hy, H⟩ := hrel
    by_cases hlt : i < s.size
    · have hd := bytes_drop s i hlt
      have hall := (letB_iff _ _).1 (List.all_eq_true.1 HL.out s[i] (byte_mem s i hlt))
      have HD := hid hd
      clear hd
      obtain ⟨ch, hch⟩ : ∃ ch, ch = s[i] := ⟨_, rfl⟩
      rw [← hch] at HD hall
      have hcn : ((s[i].toNat : Nat) : Int) = (ch.toNat : Int) := by rw [hch]
      have HCH := hid hch
      clear hch
      have e1 : IntKind.u8.wrap ((ch.toNat : Int) - 97) = ((ch.toNat - 97 : Nat) : Int) := by rw [IntWalk.u8_in _ (by omega)]; omega
      have hfin : imgW M x s.data.toList = imgW M (press M y (ch.toNat - 97)) (s.data.toList.drop (i + 1)) := by
        rw [H.out, HD.out, imgW_cons]
      obtain ⟨d, hdd⟩ : ∃ d, d = ch.toNat - 97 := ⟨_, rfl⟩
      rw [← hdd] at e1 hfin
      have hd4 : d < M.length := by omega
      have CC := hid (C.out y d hy hd4)
      have hz5 := HP.out y d
      obtain ⟨z, hz⟩ : ∃ z, z = press M y d := ⟨_, rfl⟩
      rw [← hz] at CC hfin hz5
      have HF := hid hfin
      clear hfin hdd hz
      go_wp2_with fail
      refine CC.out.mono ?_
      rintro e w1 ⟨rfl, rfl⟩
      go_wp2_with fail
      exact ⟨⟨i + 1, z, by omega, by go_num, rfl, hz5, HF⟩, by simp [intOf]; omega⟩
    · have hfin : imgW M x s.data.toList = y := by
        rw [H.out, bytes_drop_end s i (by omega)]; rfl
      have HF := hid hfin
      clear hfin
      go_wp2_with fail
      go_ret
      exact ⟨ret_int (by rw [HF.out]), rfl⟩
end Go.Proofs.YthlgdakdjikjhaaDoor
