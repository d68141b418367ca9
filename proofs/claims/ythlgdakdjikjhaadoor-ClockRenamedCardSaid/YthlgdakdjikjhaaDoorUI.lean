/-
  Texts merged: Grd, Ap, Cmp, Gr, Gs.
-/
import Derived.Test.YthlgdakdjikjhaaDoorUH
import Derived.Test.YthlgdakdjikjhaaDoorUF
import Derived.Deep.RegionLaw
/-
  The word that merges states two by two: plain definitions and laws. No program is walked.
-/
namespace Go.Proofs.YthlgdakdjikjhaaDoor

/-- The first word that merges two states. -/
def wordP (M : List (List Nat)) (p q : Nat) : List UInt8 := ((firstE M (pairN p q) oneB).map Ent.word).getD []
/-- Does a word take the place of the best one? -/
def betB (x best : List UInt8) : Bool := best.isEmpty || decide (ltW x best)
def bet (x best : List UInt8) : List UInt8 := if betB x best then x else best
/-- The best word behind the pairs of state q with the first k ones. -/
def bstI (M : List (List Nat)) (l : List Nat) (q k : Nat) (best : List UInt8) : List UInt8 := (l.take k).foldl (fun b p => bet (wordP M p q) b) best
/-- The best word behind the first j states. -/
def bstO (M : List (List Nat)) (l : List Nat) (j : Nat) : List UInt8 := (List.range j).foldl (fun b j => bstI M l (l.getD j 0) j b) []
theorem bstI_zero (M : List (List Nat)) (l : List Nat) (q : Nat) (b : List UInt8) : bstI M l q 0 b = b := rfl
theorem bstI_succ (M : List (List Nat)) (l : List Nat) (q k : Nat) (b : List UInt8) {p : Nat} (h : l[k]? = some p) : bstI M l q (k + 1) b = bet (wordP M p q) (bstI M l q k b) := by
  obtain ⟨hk, rfl⟩ := List.getElem?_eq_some_iff.1 h
  unfold bstI
  rw [List.take_succ_eq_append_getElem hk, List.foldl_append]
  rfl
theorem bstO_zero (M : List (List Nat)) (l : List Nat) : bstO M l 0 = [] := rfl
theorem bstO_succ (M : List (List Nat)) (l : List Nat) (j : Nat) {q : Nat} (h : l[j]? = some q) : bstO M l (j + 1) = bstI M l q j (bstO M l j) := by
  unfold bstO
  rw [List.range_succ, List.foldl_append]
  show bstI M l (l.getD j 0) j _ = _
  rw [List.getD, h]
  rfl
theorem bstI_of (M : List (List Nat)) (l : List Nat) (q : Nat) (b : List UInt8) : ∀ k, k ≤ l.length → bstI M l q k b = b ∨ ∃ p ∈ l.take k, bstI M l q k b = wordP M p q := by
  intro k
  induction k with
  | zero => intro _; exact .inl rfl
  | succ k ih =>
    intro hk
    rw [bstI_succ M l q k b (List.getElem?_eq_getElem (by omega)), bet]
    split
    · exact .inr ⟨l[k], List.mem_take_iff_getElem.2 ⟨k, by omega, rfl⟩, rfl⟩
    · rcases ih (by omega) with h | ⟨p, h1, h2⟩
      · exact .inl h
      · exact .inr ⟨p, (List.take_sublist_take_left (by omega)).subset h1, h2⟩
theorem bet_ne {x b : List UInt8} (hx : x ≠ []) : bet x b ≠ [] := by
  unfold bet
  split
  · exact hx
  · rename_i h
    intro e
    subst e
    exact h rfl
theorem bstI_ne (M : List (List Nat)) (l : List Nat) (q : Nat) (b : List UInt8) (hw : ∀ p ∈ l, p ≠ q → wordP M p q ≠ []) : ∀ k, k ≤ l.length → (∀ p ∈ l.take k, p ≠ q) → (1 ≤ k ∨ b ≠ []) → bstI M l q k b ≠ [] := by
  intro k
  induction k with
  | zero => intro _ _ h; rcases h with h | h; omega; exact h
  | succ k ih =>
    intro hk hne _
    rw [bstI_succ M l q k b (List.getElem?_eq_getElem (by omega))]
    exact bet_ne (hw _ (List.getElem_mem _) (hne _ (List.mem_take_iff_getElem.2 ⟨k, by omega, rfl⟩)))
/-- The best word of a set merges two of its states. -/
theorem bstO_of (M : List (List Nat)) (l : List Nat) (hn : l.Nodup) (hw : ∀ p ∈ l, ∀ q ∈ l, p ≠ q → wordP M p q ≠ []) : ∀ j, j ≤ l.length →
    (j ≤ 1 ∧ bstO M l j = []) ∨ (2 ≤ j ∧ bstO M l j ≠ [] ∧ ∃ p ∈ l, ∃ q ∈ l, p ≠ q ∧ bstO M l j = wordP M p q) := by
  intro j
  induction j with
  | zero => intro _; exact .inl ⟨by omega, rfl⟩
  | succ j ih =>
    intro hj
    rw [bstO_succ M l j (List.getElem?_eq_getElem (by omega))]
    have hne : ∀ p ∈ l.take j, p ≠ l[j] := fun p hp e => by
      obtain ⟨i, hi, h1⟩ := List.mem_take_iff_getElem.1 hp
      have hi' : i < j := by omega
      have := List.pairwise_iff_getElem.1 hn i j (by omega) (by omega) hi'
      rw [h1] at this; exact this e
    rcases Nat.eq_zero_or_pos j with h0 | h0
    · subst h0
      exact .inl ⟨by omega, rfl⟩
    · have hq : l[j] ∈ l := List.getElem_mem _
      have hnn := bstI_ne M l l[j] (bstO M l j) (fun p hp h => hw p hp _ hq h) j (by omega) hne (.inl h0)
      refine .inr ⟨by omega, hnn, ?_⟩
      rcases bstI_of M l l[j] (bstO M l j) j (by omega) with h | ⟨p, hp, h⟩
      · rcases ih (by omega) with ⟨-, h1⟩ | ⟨-, h1, p, hp, q, hq, h2, h3⟩
        · rw [h, h1] at hnn; exact absurd rfl hnn
        · exact ⟨p, hp, q, hq, h2, by rw [h, h3]⟩
      · exact ⟨p, List.mem_of_mem_take hp, _, hq, hne p hp, h⟩

theorem pair_sets : ((List.range 512).filter fun x => decide (1 ≤ sizeN x) && decide (sizeN x ≤ 2)).length = 45 := by decide +kernel
theorem size_pair {p q : Nat} : sizeN (pairN p q) ≤ 2 := by
  have := len_sub (listN (pairN p q)) [p, q] (listN_nodup _) fun t ht => by
    have := (pairN_bit p q t).1 ((listN_mem _ _).1 ht).2
    simpa using this
  exact this
theorem pair_len {M : List (List Nat)} (hM : OkM M) {p q : Nat} (hp : p < nst M) (hq : q < nst M) {x : Ent} (h : firstE M (pairN p q) oneB = some x) : x.word.length ≤ 44 := by
  have hs := pairN_lt hp hq
  have hg := reach_good hM hs
  have hx := List.mem_of_find?_eq_some h
  obtain ⟨i, hi⟩ := List.getElem?_of_mem hx
  have h1 := hg.wlen i x hi
  have h2 := (List.getElem?_eq_some_iff.1 hi).1
  have h3 := len_sub ((reach M (pairN p q)).map (·.set)) ((List.range 512).filter fun x => decide (1 ≤ sizeN x) && decide (sizeN x ≤ 2)) hg.nodup fun t ht => by
    obtain ⟨e, he, rfl⟩ := List.mem_map.1 ht
    obtain ⟨j, hj⟩ := List.getElem?_of_mem he
    obtain ⟨a1, a2⟩ := hg.word hM.b4 j e hj
    have a3 := sizeN_img hM a1 hs
    rw [a2] at a3
    have a4 : e.set < 512 := lt512 hM (hg.lt e he)
    have a5 := imgW_ne hM a1 hs (pairN_ne p q)
    rw [a2] at a5
    have a6 := sizeN_pos _ a4 a5
    have a7 := size_pair (p := p) (q := q)
    rw [List.mem_filter, List.mem_range]
    refine ⟨a4, ?_⟩
    rw [Bool.and_eq_true]
    exact ⟨decide_eq_true a6, decide_eq_true (by omega)⟩
  rw [List.length_map, pair_sets] at h3
  omega
/-- Every two states can be led together. -/
def AllMeet (M : List (List Nat)) : Prop := ∀ p q, p < nst M → q < nst M → (firstE M (pairN p q) oneB).isSome = true
theorem wordP_of {M : List (List Nat)} (hM : OkM M) (H : AllMeet M) {p q : Nat} (hp : p < nst M) (hq : q < nst M) : ∃ x, firstE M (pairN p q) oneB = some x ∧ wordP M p q = x.word ∧ x.word.all (letB M.length) = true ∧ x.word.length ≤ 44 ∧ tr M p x.word = tr M q x.word := by
  obtain ⟨x, hx⟩ := Option.isSome_iff_exists.1 (H p q hp hq)
  obtain ⟨h1, h2, h3, -⟩ := firstE_word hM (pairN_lt hp hq) hx
  exact ⟨x, hx, by unfold wordP; rw [hx]; rfl, h1, pair_len hM hp hq hx, meet_iff hM h1 hp hq (by rw [h2]; simpa [oneB] using h3)⟩
theorem wordP_ne {M : List (List Nat)} (hM : OkM M) (H : AllMeet M) {p q : Nat} (hp : p < nst M) (hq : q < nst M) (hne : p ≠ q) : wordP M p q ≠ [] := by
  obtain ⟨x, -, h2, -, -, h5⟩ := wordP_of hM H hp hq
  rw [h2]
  intro e
  rw [e] at h5
  exact hne h5
/-- The best word of a set of two or more states makes it smaller. -/
theorem best_of {M : List (List Nat)} (hM : OkM M) (H : AllMeet M) {s : Nat} (hs : s < 2 ^ nst M) (h2 : 1 < sizeN s) :
    (bstO M (listN s) (sizeN s)).all (letB M.length) = true ∧ (bstO M (listN s) (sizeN s)).length ≤ 44 ∧ sizeN (imgW M s (bstO M (listN s) (sizeN s))) < sizeN s := by
  have hb : ∀ p ∈ listN s, p < nst M := fun p hp => bit_lt hs ((listN_bit hM hs p).1 hp)
  rcases bstO_of M (listN s) (listN_nodup s) (fun p hp q hq hne => wordP_ne hM H (hb p hp) (hb q hq) hne) (sizeN s) (Nat.le_refl _) with ⟨h, -⟩ | ⟨-, -, p, hp, q, hq, hne, he⟩
  · omega
  · obtain ⟨x, -, a2, a3, a4, a5⟩ := wordP_of hM H (hb p hp) (hb q hq)
    rw [he, a2]
    exact ⟨a3, a4, sizeN_meet hM a3 hs ((listN_bit hM hs p).1 hp) ((listN_bit hM hs q).1 hq) hne a5⟩
/-- The word, from a set on. -/
def grdF (M : List (List Nat)) : Nat → Nat → List UInt8 → List UInt8
  | 0, _, out => out
  | f + 1, s, out => if 1 < sizeN s then grdF M f (imgW M s (bstO M (listN s) (sizeN s))) (out ++ bstO M (listN s) (sizeN s)) else out
def grd (M : List (List Nat)) : List UInt8 := grdF M 9 (allS M) []
theorem grdF_end {M : List (List Nat)} {f s : Nat} {out : List UInt8} (h : ¬ 1 < sizeN s) : grdF M f s out = out := by
  cases f with
  | zero => rfl
  | succ f => rw [grdF, if_neg h]
theorem grdF_of {M : List (List Nat)} (hM : OkM M) (H : AllMeet M) : ∀ (f s : Nat) (out : List UInt8), s < 2 ^ nst M → s ≠ 0 → sizeN s ≤ f + 1 →
    ∃ u : List UInt8, grdF M f s out = out ++ u ∧ u.all (letB M.length) = true ∧ u.length ≤ 44 * f ∧ sizeN (imgW M s u) = 1 := by
  intro f
  induction f with
  | zero =>
    intro s out hs h0 h
    have := sizeN_pos s (lt512 hM hs) h0
    exact ⟨[], by simp [grdF], rfl, by simp, by show sizeN s = 1; omega⟩
  | succ f ih =>
    intro s out hs h0 h
    have hp := sizeN_pos s (lt512 hM hs) h0
    by_cases h1 : 1 < sizeN s
    · obtain ⟨a1, a2, a3⟩ := best_of hM H hs h1
      rw [grdF, if_pos h1]
      generalize bstO M (listN s) (sizeN s) = b at *
      obtain ⟨u, b1, b2, b3, b4⟩ := ih (imgW M s b) (out ++ b) (imgW_lt hM b s hs) (imgW_ne hM a1 hs h0) (by omega)
      exact ⟨b ++ u, by rw [b1, List.append_assoc], by rw [List.all_append, a1, b2]; rfl, by rw [List.length_append]; omega, by rw [imgW_app]; exact b4⟩
    · exact ⟨[], by rw [grdF_end h1]; simp, rfl, by simp, by show sizeN s = 1; omega⟩
theorem grd_of {M : List (List Nat)} (hM : OkM M) (H : AllMeet M) : (grd M).all (letB M.length) = true ∧ (grd M).length ≤ 396 ∧ sizeN (imgW M (allS M) (grd M)) = 1 := by
  obtain ⟨u, h1, h2, h3, h4⟩ := grdF_of hM H 9 (allS M) [] (allS_lt hM) (allS_ne hM) (Nat.le_trans (sizeN_le _) (by omega))
  have : grd M = u := by unfold grd; rw [h1]; rfl
  rw [this]
  exact ⟨h2, by omega, h4⟩
end Go.Proofs.YthlgdakdjikjhaaDoor
/-
  Apart and the rank: plain laws.
-/
namespace Go.Proofs.YthlgdakdjikjhaaDoor

theorem apI_none (M : List (List Nat)) (p : Nat) : ∀ k q, apI M p k q = none → ∀ j, q ≤ j → j < q + k → (firstE M (pairN p j) oneB).isSome = true := by
  intro k
  induction k with
  | zero => intro q _ j h1 h2; omega
  | succ k ih =>
    intro q h j h1 h2
    rw [apI] at h
    split at h
    · cases h
    · rename_i hn
      rcases Nat.eq_or_lt_of_le h1 with e | e
      · subst e
        cases hf : firstE M (pairN p q) oneB with
        | none => rw [hf] at hn; exact absurd rfl hn
        | some x => rfl
      · exact ih (q + 1) h j (by omega) (by omega)
theorem apI_some (M : List (List Nat)) (p : Nat) : ∀ k q r, apI M p k q = some r → q ≤ r ∧ r < q + k ∧ firstE M (pairN p r) oneB = none := by
  intro k
  induction k with
  | zero => intro q r h; cases h
  | succ k ih =>
    intro q r h
    rw [apI] at h
    split at h
    · rename_i hn
      cases h
      exact ⟨by omega, by omega, Option.isNone_iff_eq_none.1 hn⟩
    · have := ih (q + 1) r h
      exact ⟨by omega, by omega, this.2.2⟩
theorem apO_cases (M : List (List Nat)) : ∀ k p, p + k = nst M →
    (apO M k p = [] ∧ ∀ i j, p ≤ i → i < j → j < nst M → (firstE M (pairN i j) oneB).isSome = true) ∨ ∃ i j, apO M k p = [i, j] ∧ i < j ∧ j < nst M ∧ firstE M (pairN i j) oneB = none := by
  intro k
  induction k with
  | zero => intro p h; exact .inl ⟨rfl, fun i j h1 h2 h3 => by omega⟩
  | succ k ih =>
    intro p h
    rw [apO]
    cases hi : apI M p (nst M - (p + 1)) (p + 1) with
    | some q =>
      have := apI_some M p _ _ _ hi
      exact .inr ⟨p, q, rfl, by omega, by omega, this.2.2⟩
    | none =>
      have h2 := apI_none M p _ _ hi
      rcases ih (p + 1) (by omega) with ⟨h3, h4⟩ | ⟨i, j, h3, h4⟩
      · refine .inl ⟨h3, fun i j h5 h6 h7 => ?_⟩
        rcases Nat.eq_or_lt_of_le h5 with e | e
        · subst e; exact h2 j (by omega) (by omega)
        · exact h4 i j (by omega) h6 h7
      · exact .inr ⟨i, j, h3, h4⟩
/-- Apart is empty exactly if every two states can be led together. -/
theorem apart_cases {M : List (List Nat)} (hM : OkM M) : (apartL M = [] ∧ AllMeet M) ∨ (∃ i j, apartL M = [i, j] ∧ i < j ∧ j < nst M ∧ ¬ AllMeet M) := by
  rcases apO_cases M (nst M) 0 (by omega) with ⟨h1, h2⟩ | ⟨i, j, h1, h2, h3, h4⟩
  · refine .inl ⟨h1, fun p q hp hq => ?_⟩
    rcases Nat.lt_trichotomy p q with h | h | h
    · exact h2 p q (by omega) h hq
    · subst h; rw [pair_self hM hp]; rfl
    · rw [pairN_comm]; exact h2 q p (by omega) h hp
  · refine .inr ⟨i, j, h1, h2, h3, fun H => ?_⟩
    have := H i j (by omega) h3
    rw [h4] at this; cases this
theorem meet_reset {M : List (List Nat)} (hM : OkM M) : AllMeet M ↔ (firstE M (allS M) oneB).isSome = true := by
  rw [← reset_iff hM]
  constructor
  · intro H p q hqp hp; exact H p q hp (by omega)
  · intro H p q hp hq
    rcases Nat.le_total q p with h | h
    · exact H p q h hp
    · rw [pairN_comm]; exact H q p h hq

/-- The rank: the least size of an image. -/
theorem mF_min : ∀ (l : List Nat) (n : Nat), mF n l = n ∨ ∃ q ∈ l, mF n l = sizeN q := by
  intro l
  induction l with
  | nil => intro n; exact .inl rfl
  | cons a r ih =>
    intro n
    show mF (min n (sizeN a)) r = n ∨ _
    rcases ih (min n (sizeN a)) with h | ⟨q, h1, h2⟩
    · rcases Nat.le_total n (sizeN a) with h3 | h3
      · left; rw [h]; omega
      · right; exact ⟨a, List.mem_cons_self .., by show mF (min n (sizeN a)) r = _; rw [h]; omega⟩
    · exact .inr ⟨q, List.mem_cons_of_mem _ h1, h2⟩
theorem mF_lb : ∀ (l : List Nat) (n : Nat), ∀ q ∈ l, mF n l ≤ sizeN q := by
  intro l
  induction l with
  | nil => intro n q h; cases h
  | cons a r ih =>
    intro n q h
    show mF (min n (sizeN a)) r ≤ _
    rcases List.mem_cons.1 h with h | h
    · subst h; exact Nat.le_trans (mF_le _ _) (Nat.min_le_right _ _)
    · exact ih _ q h
theorem minN_lb {M : List (List Nat)} {x : Ent} (h : x ∈ reach M (allS M)) : minN M ≤ sizeN x.set := mF_lb _ _ _ (List.mem_map.2 ⟨x, h, rfl⟩)
theorem allS_mem {M : List (List Nat)} (hM : OkM M) : ∃ x ∈ reach M (allS M), x.set = allS M := by
  have hh := (reach_good hM (allS_lt hM)).head
  exact ⟨_, List.mem_of_getElem? hh, rfl⟩
theorem allS_size2 {M : List (List Nat)} (hM : OkM M) : sizeN (allS M) = nst M := by
  have h : ∀ n : Nat, n < 10 → sizeN (2 ^ n - 1) = n := by decide
  exact h _ (by have := hM.n9; omega)
theorem minN_at {M : List (List Nat)} (hM : OkM M) : ∃ x ∈ reach M (allS M), minN M = sizeN x.set := by
  unfold minN
  rcases mF_min ((reach M (allS M)).map (·.set)) (nst M) with h | ⟨q, h1, h2⟩
  · obtain ⟨x, hx, he⟩ := allS_mem hM
    exact ⟨x, hx, by rw [h, he, allS_size2 hM]⟩
  · obtain ⟨x, hx, rfl⟩ := List.mem_map.1 h1
    exact ⟨x, hx, h2⟩
/-- The reference's first smallest image is that of the rank. -/
theorem ShrE.min {M : List (List Nat)} (hM : OkM M) {x : Ent} (h : ShrE M (allS M) x) : sizeN x.set = minN M ∧ firstE M (allS M) (hasB (minN M)) = some x := by
  obtain ⟨y, hy, he⟩ := minN_at hM
  have h1 := h.2 y hy
  have hx : x ∈ reach M (allS M) := List.mem_of_find?_eq_some h.1
  have h2 := minN_lb hx
  have h3 : sizeN x.set = minN M := by omega
  exact ⟨h3, by rw [← h3]; exact h.1⟩
theorem hasB_one : hasB 1 = oneB := rfl
theorem minN_pos {M : List (List Nat)} (hM : OkM M) : 1 ≤ minN M ∧ minN M ≤ nst M := by
  obtain ⟨y, hy, he⟩ := minN_at hM
  have hg := reach_good hM (allS_lt hM)
  obtain ⟨j, hj⟩ := List.getElem?_of_mem hy
  have h1 := sizeN_pos y.set (lt512 hM (hg.lt y hy)) (hg.ne hM (allS_ne hM) j y hj)
  obtain ⟨x, hx, hx2⟩ := allS_mem hM
  have h2 := minN_lb hx
  rw [hx2, allS_size2 hM] at h2
  omega
theorem rank_one {M : List (List Nat)} (hM : OkM M) : minN M = 1 ↔ (firstE M (allS M) oneB).isSome = true := by
  constructor
  · intro h
    obtain ⟨y, hy, he⟩ := minN_at hM
    unfold firstE
    rw [List.find?_isSome]
    exact ⟨y, hy, by simp [oneB]; omega⟩
  · intro h
    obtain ⟨x, hx⟩ := Option.isSome_iff_exists.1 h
    have h1 := List.mem_of_find?_eq_some hx
    have h2 : oneB x.set = true := by have := List.find?_some hx; exact this
    have h3 := minN_lb h1
    have h4 : sizeN x.set = 1 := by simpa [oneB] using h2
    have := minN_pos hM
    omega
/-- The rank's word is there. -/
theorem rank_some {M : List (List Nat)} (hM : OkM M) : ∃ x, firstE M (allS M) (hasB (minN M)) = some x ∧ sizeN x.set = minN M ∧ x.word.all (letB M.length) = true ∧ imgW M (allS M) x.word = x.set ∧ x.word.length ≤ 511 := by
  obtain ⟨y, hy, he⟩ := minN_at hM
  have : (firstE M (allS M) (hasB (minN M))).isSome = true := by
    unfold firstE
    rw [List.find?_isSome]
    exact ⟨y, hy, by simp [hasB]; omega⟩
  obtain ⟨x, hx⟩ := Option.isSome_iff_exists.1 this
  obtain ⟨h1, h2, h3, h4⟩ := firstE_word hM (allS_lt hM) hx
  exact ⟨x, hx, by simpa [hasB] using h3, h1, h2, h4⟩
end Go.Proofs.YthlgdakdjikjhaaDoor
/-
  Walks: comparisons of words.
-/
namespace Go.Proofs.YthlgdakdjikjhaaDoor
open Go.RowKit Go.ChangeMaps
attribute [local go_sem] Oper.semAt_some

def cI (a b : Int) : Int := if a < b then -1 else if b < a then 1 else 0
def cS (x y : List UInt8) : Int := if x < y then -1 else if y < x then 1 else 0
def orI (a b : Int) : Int := if a = 0 then b else a
theorem lt_words (x y : List UInt8) : x < y ∨ x = y ∨ y < x := by
  rcases List.le_total x y with h | h
  · by_cases h2 : x < y
    · exact .inl h2
    · exact .inr (.inl (List.le_antisymm h (List.not_lt.1 h2)))
  · by_cases h2 : y < x
    · exact .inr (.inr h2)
    · exact .inr (.inl (List.le_antisymm (List.not_lt.1 h2) h))
theorem or_less (x y : List UInt8) : decide (orI (cI x.length y.length) (cS x y) < 0) = decide (ltW x y) := by
  have h : orI (cI x.length y.length) (cS x y) < 0 ↔ ltW x y := by
    unfold orI cI cS ltW
    rcases Nat.lt_trichotomy x.length y.length with h | h | h
    · rw [if_pos (show (x.length : Int) < y.length by omega), if_neg (by decide)]
      simp [h]
    · rw [if_neg (show ¬ (x.length : Int) < y.length by omega), if_neg (show ¬ (y.length : Int) < x.length by omega), if_pos rfl]
      rcases lt_words x y with h2 | h2 | h2
      · rw [if_pos h2]; simp [h, h2]
      · rw [if_neg (by rw [h2]; exact List.lt_irrefl _), if_neg (by rw [h2]; exact List.lt_irrefl _)]
        simp [h2, List.lt_irrefl]
      · have h3 : ¬ x < y := fun h4 => List.lt_asymm h2 h4
        rw [if_neg h3, if_pos h2]; simp [h, h3]
    · rw [if_neg (show ¬ (x.length : Int) < y.length by omega), if_pos (show (y.length : Int) < x.length by omega), if_neg (by decide)]
      simp; omega
  exact decide_eq_decide.2 h
set_option maxHeartbeats 1000000 in
theorem nanI_any (a : Int) (w : World) : Calls Tryd.prog 83 #[.int .i64 a] w fun e w' => e = .returned (.bool false) ∧ w = w' := by
  go_enter Tryd.func83, Tryd.ntmps83
  go_wp2_with fail
  go_ret
  exact ⟨by simp, rfl⟩
set_option maxHeartbeats 1000000 in
theorem nanS_any (a : ByteArray) (w : World) : Calls Tryd.prog 84 #[.string a] w fun e w' => e = .returned (.bool false) ∧ w = w' := by
  go_enter Tryd.func84, Tryd.ntmps84
  go_wp2_with fail
  go_ret
  exact ⟨by simp, rfl⟩
set_option maxHeartbeats 4000000 in
theorem cmpI_any (a b : Int) (w : World) : Calls Tryd.prog 71 #[.int .i64 a, .int .i64 b] w fun e w' => e = .returned (.int .i64 (cI a b)) ∧ w = w' := by
  have NA := hid (nanI_any a w)
  have NB := hid (nanI_any b w)
  rcases Int.lt_trichotomy a b with h | h | h
  · have d1 : decide (a < b) = true := decide_eq_true h
    have H := hid (show cI a b = -1 by unfold cI; rw [if_pos h])
    go_enter Tryd.func71, Tryd.ntmps71
    go_wp2_with fail
    refine NA.out.mono ?_
    rintro e w1 ⟨rfl, rfl⟩
    go_wp2_with fail
    refine NB.out.mono ?_
    rintro e w1 ⟨rfl, rfl⟩
    go_wp2_with fail
    go_ret
    exact ⟨ret_int H.out.symm, rfl⟩
  · have d1 : decide (a < b) = false := decide_eq_false (by omega)
    have d2 : decide (a > b) = false := decide_eq_false (by omega)
    have d3 : ¬ a < b := by omega
    have d4 : ¬ b < a := by omega
    have H := hid (show cI a b = 0 by unfold cI; rw [if_neg (by omega), if_neg (by omega)])
    clear h
    go_enter Tryd.func71, Tryd.ntmps71
    go_wp2_with fail
    refine NA.out.mono ?_
    rintro e w1 ⟨rfl, rfl⟩
    go_wp2_with fail
    refine NB.out.mono ?_
    rintro e w1 ⟨rfl, rfl⟩
    go_wp2_with fail
    go_ret
    exact ⟨ret_int H.out.symm, rfl⟩
  · have d1 : decide (a < b) = false := decide_eq_false (by omega)
    have d2 : decide (a > b) = true := decide_eq_true (by omega)
    have d3 : ¬ a < b := by omega
    have H := hid (show cI a b = 1 by unfold cI; rw [if_neg (by omega), if_pos h])
    go_enter Tryd.func71, Tryd.ntmps71
    go_wp2_with fail
    refine NA.out.mono ?_
    rintro e w1 ⟨rfl, rfl⟩
    go_wp2_with fail
    refine NB.out.mono ?_
    rintro e w1 ⟨rfl, rfl⟩
    go_wp2_with fail
    go_ret
    exact ⟨ret_int H.out.symm, rfl⟩
theorem less_b (x y : ByteArray) : Op.bytesLess x.toList y.toList = decide (x.data.toList < y.data.toList) := by
  rw [Lib.toList_data, Lib.toList_data]; exact bytesLess_lt _ _
set_option maxHeartbeats 4000000 in
theorem cmpS_any (a b : ByteArray) (w : World) : Calls Tryd.prog 72 #[.string a, .string b] w fun e w' => e = .returned (.int .i64 (cS a.data.toList b.data.toList)) ∧ w = w' := by
  have NA := hid (nanS_any a w)
  have NB := hid (nanS_any b w)
  have L1 := less_b a b
  have L2 := less_b b a
  rcases lt_words a.data.toList b.data.toList with h | h | h
  · have H := hid (show cS a.data.toList b.data.toList = -1 by unfold cS; rw [if_pos h])
    rw [decide_eq_true h] at L1
    clear h L2
    go_enter Tryd.func72, Tryd.ntmps72
    go_wp2_with fail
    refine NA.out.mono ?_
    rintro e w1 ⟨rfl, rfl⟩
    go_wp2_with fail
    refine NB.out.mono ?_
    rintro e w1 ⟨rfl, rfl⟩
    go_wp2_with fail
    go_ret
    exact ⟨ret_int H.out.symm, rfl⟩
  · have H := hid (show cS a.data.toList b.data.toList = 0 by unfold cS; rw [h, if_neg (List.lt_irrefl _), if_neg (List.lt_irrefl _)])
    rw [h, decide_eq_false (List.lt_irrefl _)] at L1 L2
    have E1 : (a.toList == b.toList) = true := by rw [Lib.toList_data, Lib.toList_data, h]; simp
    clear h
    go_enter Tryd.func72, Tryd.ntmps72
    go_wp2_with fail
    refine NA.out.mono ?_
    rintro e w1 ⟨rfl, rfl⟩
    go_wp2_with fail
    refine NB.out.mono ?_
    rintro e w1 ⟨rfl, rfl⟩
    go_wp2_with fail
    go_ret
    exact ⟨ret_int H.out.symm, rfl⟩
  · have hn : ¬ a.data.toList < b.data.toList := fun h4 => List.lt_asymm h h4
    have H := hid (show cS a.data.toList b.data.toList = 1 by unfold cS; rw [if_neg hn, if_pos h])
    rw [decide_eq_false hn] at L1
    rw [decide_eq_true h] at L2
    have E1 : (a.toList == b.toList) = false := by
      rw [Lib.toList_data, Lib.toList_data]
      exact beq_eq_false_iff_ne.2 fun e => by rw [e] at h; exact List.lt_irrefl _ h
    clear h hn
    go_enter Tryd.func72, Tryd.ntmps72
    go_wp2_with fail
    refine NA.out.mono ?_
    rintro e w1 ⟨rfl, rfl⟩
    go_wp2_with fail
    refine NB.out.mono ?_
    rintro e w1 ⟨rfl, rfl⟩
    go_wp2_with fail
    go_ret
    exact ⟨ret_int H.out.symm, rfl⟩
set_option maxHeartbeats 4000000 in
theorem or_any (g : Nat) (a b : Int) (w : World) (q0 : w.cell? ⟨g, 0, none⟩ = some (.int .i64 a)) (q1 : w.cell? ⟨g, 1, none⟩ = some (.int .i64 b)) :
    Calls Tryd.prog 70 #[.slice (some ⟨g, 0, none⟩) 2 2] w fun e w' => e = .returned (.int .i64 (orI a b)) ∧ w = w' := by
  go_enter Tryd.func70, Tryd.ntmps70
  go_wp2_with fail
  go_loop [8] (fun i => ∃ k : Nat, k ≤ 2 ∧ i = .int .i64 k ∧ Hid ((1 ≤ k → a = 0) ∧ (2 ≤ k → b = 0))) (fun i => 2 - (intOf i).toNat)
  case atStart => exact ⟨0, by omega, rfl, fun h => by omega, fun h => by omega⟩
  case round =>
    obtain ⟨k, hk, rfl, HK⟩ := hrel
    rcases (show k = 0 ∨ k = 1 ∨ k = 2 by omega) with rfl | rfl | rfl
    · by_cases h : a = 0
      · have e1 : (a != 0) = false := by simp [h]
        have HA := hid h
        clear h
        go_wp2_with fail
        exact ⟨⟨1, by omega, rfl, fun _ => HA.out, fun h => by omega⟩, by simp [intOf]⟩
      · have e1 : (a != 0) = true := by simp [h]
        have HA := hid (show orI a b = a by unfold orI; rw [if_neg h])
        clear h
        go_wp2_with fail
        go_ret
        exact ⟨ret_int HA.out.symm, rfl⟩
    · have h0 := HK.out.1 (by omega)
      have HB := hid (show orI a b = b by unfold orI; rw [if_pos h0])
      by_cases h : b = 0
      · have e1 : (b != 0) = false := by simp [h]
        have HA := hid h
        have HH := hid h0
        clear h h0
        go_wp2_with fail
        exact ⟨⟨2, by omega, rfl, fun _ => HH.out, fun _ => HA.out⟩, by simp [intOf]⟩
      · have e1 : (b != 0) = true := by simp [h]
        clear h h0
        go_wp2_with fail
        go_ret
        exact ⟨ret_int HB.out.symm, rfl⟩
    · have HB := hid (show orI a b = 0 by unfold orI; rw [if_pos (HK.out.1 (by omega)), HK.out.2 (by omega)])
      go_wp2_with fail
      go_ret
      exact ⟨ret_int HB.out.symm, rfl⟩
set_option maxHeartbeats 4000000 in
theorem before_any (x y : ByteArray) (w : World) : Calls Tryd.prog 73 #[.string x, .string y] w fun e w' => e = .returned (.bool (decide (ltW x.data.toList y.data.toList))) ∧ w = w' := by
  rcases Nat.lt_trichotomy x.size y.size with h | h | h
  · have d1 : ((x.size : Int) != (y.size : Int)) = true := by simp; omega
    have d3 : decide (x.size < y.size) = true := decide_eq_true (by omega)
    have hf : ltW x.data.toList y.data.toList := .inl h
    have HF := hid (decide_eq_true hf)
    clear hf h
    go_enter Tryd.func73, Tryd.ntmps73
    go_wp2_with fail
    go_ret
    exact ⟨ret_bool HF.out.symm, rfl⟩
  · have d1 : ((x.size : Int) != (y.size : Int)) = false := by simp; omega
    have hf : Op.bytesLess x.toList y.toList = decide (ltW x.data.toList y.data.toList) := by
      rw [less_b]
      refine decide_eq_decide.2 ⟨fun h1 => .inr ⟨h, h1⟩, fun h1 => ?_⟩
      rcases h1 with h1 | ⟨-, h1⟩
      · rw [bytes_len, bytes_len] at h1; omega
      · exact h1
    have HF := hid hf
    clear hf h
    go_enter Tryd.func73, Tryd.ntmps73
    go_wp2_with fail
    go_ret
    exact ⟨ret_bool HF.out, rfl⟩
  · have d1 : ((x.size : Int) != (y.size : Int)) = true := by simp; omega
    have d3 : decide (x.size < y.size) = false := decide_eq_false (by omega)
    have hf : ¬ ltW x.data.toList y.data.toList := by
      rw [← bytes_len, ← bytes_len] at h
      rintro (h1 | ⟨h1, -⟩) <;> omega
    have HF := hid (decide_eq_false hf)
    clear hf h
    go_enter Tryd.func73, Tryd.ntmps73
    go_wp2_with fail
    go_ret
    exact ⟨ret_bool HF.out.symm, rfl⟩
end Go.Proofs.YthlgdakdjikjhaaDoor
/-
  Walks: the word that merges states two by two.
-/
namespace Go.Proofs.YthlgdakdjikjhaaDoor
open Go.RowKit Go.ChangeMaps
attribute [local go_sem] Oper.semAt_some

set_option maxRecDepth 20000 in
set_option maxHeartbeats 1000000 in
theorem apart_nil (a : Option Addr) (c : Nat) (M : List (List Nat)) (w : World) (hM : OkM M) (hr : RowsAt w a (intM M)) (hnil : apartL M = []) :
    Calls Tryd.prog 62 #[.slice a M.length c] w fun e w' => e = .returned (.slice none 0 0) ∧ Below w.heap.size w w' := by
  have HNIL := hid hnil
  clear hnil
  have h1 := hM.b1
  obtain ⟨g, o, b1, c1, rfl, hg, q1, -⟩ := row_at hM hr 0 (by omega)
  rw [Nat.add_zero] at q1
  have hn9 := hM.n9
  have HS := hid (fun (p q : Nat) (hp : p < nst M) (hq : q < nst M) (W : World) (hb : Below w.heap.size w W) => search_one M (pairN p q) (some ⟨g, o, none⟩) c W hM (pairN_lt hp hq) (pairN_ne p q) (hr.below hb (Nat.le_refl _)))
  have HAP := hid (show apartL M = apO M (nst M) 0 from rfl)
  have HO := hid (show ∀ k p, apO M (k + 1) p = match apI M p (nst M - (p + 1)) (p + 1) with | some q => [p, q] | none => apO M k (p + 1) from fun _ _ => rfl)
  have HQ := hid (show w.cell? ⟨g, o, none⟩ = some (.slice b1 (nst M) c1) from q1)
  clear hM hr
  generalize nst M = n at *
  go_enter Tryd.func62, Tryd.ntmps62
  go_wp2_with fail
  go_loopw [12] (fun pv W => ∃ p : Nat, pv = .int .i64 p ∧ p ≤ n ∧ Below w.heap.size w W ∧ Hid (apartL M = apO M (n - p) p)) (fun pv _ => n - (intOf pv).toNat)
  case atStart => exact ⟨0, rfl, by omega, Below.refl _ _, HAP⟩
  case round =>
    obtain ⟨p, rfl, hp, hB, HL⟩ := hrel
    by_cases hlt : p < n
    · go_wp2_with fail
      go_loopw [4] (fun qv W => ∃ q : Nat, qv = .int .i64 q ∧ p + 1 ≤ q ∧ q ≤ n ∧ Below w.heap.size w W ∧ Hid (apI M p (n - (p + 1)) (p + 1) = apI M p (n - q) q)) (fun qv _ => n - (intOf qv).toNat)
      case atStart => exact ⟨p + 1, by go_num, by omega, by omega, hB, rfl⟩
      case round =>
        obtain ⟨q, rfl, hq1, hq, hB2, HI⟩ := hrel
        have q2 := (hB2.cell (p := ⟨g, o, none⟩) hg).trans q1
        by_cases hlq : q < n
        · have C1 := HS.out p q hlt hlq wr.drew hB2.drew
          have HB2 := hid hB2
          have d0 := pair_bits p q (by omega) (by omega)
          cases hf : firstE M (pairN p q) oneB with
          | none =>
            rw [hf] at C1
            simp only [srchV] at C1
            have C1 := hid C1
            have hfin : apartL M = [p, q] := by
              have hi : apI M p (n - (p + 1)) (p + 1) = some q := by
                rw [HI.out, show n - q = (n - (q + 1)) + 1 by omega, apI, hf]; rfl
              rw [HL.out, show n - p = (n - (p + 1)) + 1 by omega, HO.out, hi]
            rw [HNIL.out] at hfin
            cases hfin
          | some x =>
            rw [hf] at C1
            simp only [srchV] at C1
            have C1 := hid C1
            have hfin : apI M p (n - (p + 1)) (p + 1) = apI M p (n - (q + 1)) (q + 1) := by
              rw [HI.out, show n - q = (n - (q + 1)) + 1 by omega, apI, hf]; rfl
            have HF := hid hfin
            clear hf hfin HI hB2
            go_wp2_with fail
            go_region_with (go_at_call 52; go_must (refine C1.out.mono ?_); rintro e w1 ⟨rfl, hb1⟩)
            have h1 := HB2.out.drew.trans (hb1.mono HB2.out.drew.size)
            have HB3 := hid h1
            clear h1 hb1 C1
            go_wp2_with fail
            exact ⟨⟨q + 1, by go_num, by omega, by omega, HB3.out, HF⟩, by simp [intOf]; omega⟩
        · have hqn : q = n := by omega
          have hfin : apartL M = apO M (n - (p + 1)) (p + 1) := by
            have hi : apI M p (n - (p + 1)) (p + 1) = none := by
              rw [HI.out, show n - q = 0 by omega]; rfl
            rw [HL.out, show n - p = (n - (p + 1)) + 1 by omega, HO.out, hi]
          have HF := hid hfin
          clear hfin HI HL
          go_wp2_with fail
          exact ⟨⟨p + 1, by go_num, by omega, hB2, HF⟩, by simp [intOf]; omega⟩
    · have hfin : apartL M = [] := by rw [HL.out, show n - p = 0 by omega]; rfl
      have HF := hid hfin
      clear hfin HL
      go_wp2_with fail
      go_ret
      exact ⟨rfl, hB⟩


end Go.Proofs.YthlgdakdjikjhaaDoor
/-
  Walks: Greedy, the program.
-/
namespace Go.Proofs.YthlgdakdjikjhaaDoor
open Go.RowKit Go.ChangeMaps
attribute [local go_sem] Oper.semAt_some

theorem bet_len {x b : List UInt8} (hx : x.length ≤ 44) (hb : b.length ≤ 44) : (bet x b).length ≤ 44 := by
  unfold bet; split <;> assumption
theorem own_natV {w : World} {base : Nat} {a : Option Addr} {c : Nat} {L : List Nat} (h : w.ownsRow base 3 1 (.slice a L.length c) L.length (L.map natV)) (h0 : 0 < L.length) :
    ∃ g o, a = some ⟨g, o, none⟩ ∧ g < w.heap.size ∧ (∀ (i q : Nat), L[i]? = some q → w.cell? ⟨g, o + i, none⟩ = some (.int .i64 (q : Int))) ∧ L.length ≤ c := by
  obtain ⟨h1, -, h3⟩ := own_vals h
  have hI : Ints w a (L.map fun (x : Nat) => (x : Int)) := by
    unfold Ints
    rw [natV_ints]
    exact h1
  obtain ⟨g, o, h4, h5, h6⟩ := hI.at (by rw [List.length_map]; exact h0)
  exact ⟨g, o, h4, h5, fun i q hq => h6 i (q : Int) (by rw [List.getElem?_map, hq]; rfl), h3⟩

set_option maxRecDepth 100000 in
set_option maxHeartbeats 8000000 in
theorem Greedy_yes (a : Option Addr) (c : Nat) (M : List (List Nat)) (w : World) (hM : OkM M) (hr : RowsAt w a (intM M)) (hG : Glob w) (H : AllMeet M) :
    Calls Tryd.prog 46 #[.slice a M.length c] w fun e w' => e = .returned (.tuple #[.string (mkS (grd M)), .int .i64 0]) ∧ Below w.heap.size w w' := by
  have hnil : apartL M = [] := by
    rcases apart_cases hM with ⟨h, -⟩ | ⟨i, j, -, -, -, h⟩
    · exact h
    · exact absurd H h
  have hn9 := hM.n9
  have hb4 := hM.b4
  have IS := hid (isM_yes a c M w hM hr)
  have AP := hid (fun (W : World) (hb : Below w.heap.size w W) => apart_nil a c M W hM (hr.below hb (Nat.le_refl _)) hnil)
  have AL := hid (fun (W : World) (hb : Below w.heap.size w W) => all_any a c M W hM (hr.below hb (Nat.le_refl _)))
  rw [show 2 ^ nst M - 1 = allS M from rfl] at AL
  have SZ := hid (fun (s : Nat) (W : World) (hs : s < 512) => size_any s W hs)
  have LI := hid (fun (s : Nat) (W : World) (hb : Below w.heap.size w W) (hs : s < 512) => list_any s W (hG.next hb) hs)
  have SE := hid (fun (p q : Nat) (W : World) (hb : Below w.heap.size w W) (hp : p < nst M) (hq : q < nst M) => show ∃ x : Ent, wordP M p q = x.word ∧ x.word.length ≤ 44 ∧ Hid (Calls Tryd.prog 52 #[.slice a M.length c, .int .i64 (pairN p q), .func (.func 54) #[] #[]] W fun e w' => e = .returned (.tuple #[.string (mkS x.word), .int .i64 x.set, .bool true]) ∧ Below W.heap.size W w') by
    obtain ⟨x, h1, h2, -, h4, -⟩ := wordP_of hM H hp hq
    have := search_one M (pairN p q) a c W hM (pairN_lt hp hq) (pairN_ne p q) (hr.below hb (Nat.le_refl _))
    rw [h1] at this
    exact ⟨x, h2, h4, this⟩)
  have PR := hid (fun (s b : Nat) (W : World) (hb : Below w.heap.size w W) (hs : s < 512) (hl : b < M.length) => press_any a c M s b W hM (hr.below hb (Nat.le_refl _)) hs hl)
  have hal := allS_lt hM
  have han := allS_ne hM
  have HF := hid (fun (s : Nat) (hs : s < 2 ^ nst M) => lt512 hM hs)
  have HBE := hid (fun (s : Nat) (hs : s < 2 ^ nst M) (h1 : 1 < sizeN s) => best_of hM H hs h1)
  have HIM := hid (fun (s : Nat) (l : List UInt8) (hs : s < 2 ^ nst M) => imgW_lt hM l s hs)
  have HIN := hid (fun (s : Nat) (l : List UInt8) (hl : l.all (letB M.length) = true) (hs : s < 2 ^ nst M) (h0 : s ≠ 0) => imgW_ne hM hl hs h0)
  have HLB := hid (fun (s : Nat) (hs : s < 2 ^ nst M) (i q : Nat) (h : (listN s)[i]? = some q) => bit_lt hs ((listN_bit hM hs q).1 (List.mem_of_getElem? h)))
  have hst : sizeN (allS M) ≤ 9 := sizeN_le _
  have HST := hid (show grdF M 9 (allS M) [] = grd M from rfl)
  clear hnil hM hr H hG
  generalize allS M = al at *
  generalize nst M = n at *
  go_enter Tryd.func46, Tryd.ntmps46
  go_wp2_with fail
  refine IS.out.mono ?_
  rintro e w1 ⟨rfl, hb1⟩
  go_wp2_with fail
  refine (AP.out w1 hb1).mono ?_
  rintro e w2 ⟨rfl, hb2⟩
  have B2 := hid (hb1.trans (hb2.mono hb1.size))
  clear hb1 hb2
  go_wp2_with fail
  refine (AL.out w2 B2.out).mono ?_
  rintro e w3 ⟨rfl, rfl⟩
  go_wp2_with fail
  go_loopw [4, 5] (fun sv ov W => ∃ (s f : Nat) (out : List UInt8), sv = .int .i64 s ∧ ov = .string (mkS out) ∧ s < 2 ^ n ∧ s ≠ 0 ∧ f ≤ 9 ∧ sizeN s ≤ f + 1 ∧ out.length ≤ 44 * (9 - f) ∧ Hid (grdF M f s out = grd M) ∧ Below w.heap.size w W) (fun sv _ _ => sizeN (intOf sv).toNat)
  case atStart => exact ⟨al, 9, [], rfl, rfl, hal, han, by omega, by omega, by simp, HST, B2.out⟩
  case round =>
    obtain ⟨s, f, out, rfl, rfl, hs, h0, hf9, hsf, hol, HGR, hB⟩ := hrel
    have hs5 := HF.out s hs
    have HB := hid hB
    have HH0 := hid h0
    clear hB h0
    have SZ1 := SZ.out s wr hs5
    by_cases h1 : 1 < sizeN s
    · obtain ⟨f', rfl⟩ : ∃ f', f = f' + 1 := ⟨f - 1, by omega⟩
      obtain ⟨be1, be2, be3⟩ := HBE.out s hs h1
      have BE1 := hid be1
      have LI1 := hid (LI.out s wr HB.out hs5)
      have hlb := HLB.out s hs
      have HGR2 := hid (show grdF M f' (imgW M s (bstO M (listN s) (sizeN s))) (out ++ bstO M (listN s) (sizeN s)) = grd M by rw [← HGR.out, grdF, if_pos h1])
      have hk : sizeN s = (listN s).length := rfl
      have hIL := HIM.out s (bstO M (listN s) (sizeN s)) hs
      have hIN := hid (HIN.out s _ be1 hs HH0.out)
      have hk9 := sizeN_le s
      obtain ⟨L, hL⟩ : ∃ L, L = listN s := ⟨_, rfl⟩
      obtain ⟨k, hkk⟩ : ∃ k, k = sizeN s := ⟨_, rfl⟩
      rw [← hL, ← hkk] at be3 hIL hIN HGR2 BE1 be2
      rw [← hL] at LI1 hlb hk
      rw [← hkk] at hk hk9 hsf h1 SZ1
      have SZ1 := hid SZ1
      have HLB1 := hid hlb
      have HKK := hid hkk
      have HK := hid hk
      have d0 : decide (1 < k) = true := decide_eq_true h1
      have d0' : decide ((k : Int) > 1) = true := decide_eq_true (by omega)
      clear hL hkk be1 hlb HGR hk
      go_wp2_with fail
      refine SZ1.out.mono ?_
      rintro e w4 ⟨rfl, rfl⟩
      go_wp2_with fail
      refine LI1.out.mono ?_
      rintro e w5 ⟨a5, c5, rfl, ho5, hb5⟩
      rw [← HK.out] at ho5 ⊢
      obtain ⟨g, o, rfl, hg5, hcell, hc5⟩ := own_natV (L := L) (by rw [← HK.out]; exact ho5.out) (by rw [← HK.out]; omega)
      rw [← HK.out] at hc5
      have HC5 := hid hcell
      have HB5 := hid (HB.out.trans (hb5.mono HB.out.size))
      clear ho5 hb5 hcell
      go_wp2_with fail
      go_loopw [6, 31] (fun bv jv W => ∃ (j : Nat) (b : List UInt8), j ≤ k ∧ jv = .int .i64 j ∧ bv = .string (mkS b) ∧ b.length ≤ 44 ∧ Hid (b = bstO M L j) ∧ Below w5.heap.size w5 W) (fun _ jv _ => k - (intOf jv).toNat)
      case atStart => exact ⟨0, [], by omega, rfl, rfl, by simp, rfl, Below.refl _ _⟩
      case round =>
        obtain ⟨j, b, hj, rfl, rfl, hbl, HBJ, hBW⟩ := hrel
        have HBW := hid hBW
        clear hBW
        by_cases hjk : j < k
        · obtain ⟨q, hq, -⟩ := list_drop_cons L j (by rw [← HK.out]; exact hjk)
          have hqn := HLB1.out j q hq
          have q7 := (HBW.out.cell (p := ⟨g, o + j, none⟩) hg5).trans (HC5.out j q hq)
          have HQ := hid hq
          clear hq
          go_wp2_with fail
          go_loopw [6, 40] (fun bv iv W => ∃ (i : Nat) (b : List UInt8), i ≤ j ∧ iv = .int .i64 i ∧ bv = .string (mkS b) ∧ b.length ≤ 44 ∧ Hid (b = bstI M L q i (bstO M L j)) ∧ Below w5.heap.size w5 W) (fun _ iv _ => j - (intOf iv).toNat)
          case atStart => exact ⟨0, b, by omega, rfl, rfl, hbl, HBJ, HBW.out⟩
          case round =>
            obtain ⟨i, b2, hi, rfl, rfl, hbl2, HBI, hBW2⟩ := hrel
            have HBW2 := hid hBW2
            have HBX := hid (HB5.out.trans (hBW2.mono HB5.out.size))
            clear hBW2
            by_cases hij : i < j
            · obtain ⟨p, hp, -⟩ := list_drop_cons L i (by rw [← HK.out]; omega)
              have hpn := HLB1.out i p hp
              have q8 := (HBW2.out.cell (p := ⟨g, o + i, none⟩) hg5).trans (HC5.out i p hp)
              have hnx := bstI_succ M L q i (bstO M L j) hp
              rw [← HBI.out] at hnx
              obtain ⟨x, hx1, hx2, C1⟩ := SE.out p q wr.drew HBX.out.drew hpn hqn
              rw [hx1] at hnx
              have HNX := hid hnx
              have hxl := bet_len hx2 hbl2
              have dp := pair_bits p q (by omega) (by omega)
              have HX1 := hid hx1
              clear hp hnx hx1
              obtain ⟨u, hu⟩ : ∃ u, u = x.word := ⟨_, rfl⟩
              rw [← hu] at C1 HNX hx2 hxl
              clear hu HX1
              go_wp2_with fail
              go_region_with (go_at_call 52; go_must (refine C1.out.mono ?_); rintro e w8 ⟨rfl, hb8⟩)
              have h8 := HBW2.out.drew.trans (hb8.mono HBW2.out.drew.size)
              have HB8 := hid h8
              clear h8 hb8 C1 dp
              by_cases hb0 : b2 = []
              · subst hb0
                have HN := hid (show u = bstI M L q (i + 1) (bstO M L j) by rw [HNX.out]; rfl)
                have t1 : (mkS ([] : List UInt8)).toList = [] := by rw [Lib.toList_data]; rfl
                have t2 : (mkS ([] : List UInt8)).toList.isEmpty = true := by rw [t1]; rfl
                clear HNX hbl2 HBI
                go_wp2_with fail
                exact ⟨⟨i + 1, u, by omega, by go_num, rfl, hx2, HN, HB8.out⟩, by simp [intOf]; omega⟩
              · have t1 : (mkS b2).toList ≠ [] := by rw [Lib.toList_data]; exact hb0
                have t2 : (mkS b2).toList.isEmpty = false := by rw [Lib.toList_data]; cases b2 with | nil => exact absurd rfl hb0 | cons => rfl
                have t3 : ((mkS b2).toList == []) = false := beq_eq_false_iff_ne.2 t1
                have CL := hid (cmpI_any (mkS u).size (mkS b2).size w8)
                have CW := hid (cmpS_any (mkS u) (mkS b2) w8)
                have hor := or_less u b2
                obtain ⟨ci, hci⟩ : ∃ ci, ci = cI u.length b2.length := ⟨_, rfl⟩
                obtain ⟨cs, hcs⟩ : ∃ cs, cs = cS u b2 := ⟨_, rfl⟩
                rw [mkS_size, mkS_size, ← hci] at CL
                rw [mkS_data, mkS_data, ← hcs] at CW
                rw [← hci, ← hcs] at hor
                have OR := hid (fun W q0 q1 => or_any w8.heap.size ci cs W q0 q1)
                have hsu := mkS_size u
                have hsb := mkS_size b2
                have HCI := hid (And.intro hci hcs)
                have HSU := hid (And.intro hsu hsb)
                have HB0 := hid hb0
                have HT1 := hid t1
                clear hci hcs hsu hsb hb0 t1
                obtain ⟨r, hr⟩ : ∃ r, r = orI ci cs := ⟨_, rfl⟩
                rw [← hr] at OR hor
                clear hr
                by_cases hlt : ltW u b2
                · rw [decide_eq_true hlt] at hor
                  have HN := hid (show u = bstI M L q (i + 1) (bstO M L j) by rw [HNX.out]; unfold bet betB; rw [decide_eq_true hlt, Bool.or_true]; rfl)
                  clear hlt HNX HBI
                  go_wp2_with fail
                  rw [HSU.out.1, HSU.out.2]
                  refine CL.out.mono ?_
                  rintro e w9 ⟨rfl, rfl⟩
                  go_wp2_with fail
                  refine CW.out.mono ?_
                  rintro e w9 ⟨rfl, rfl⟩
                  go_wp2_with fail
                  refine (OR.out _ ?_ ?_).mono ?_
                  · exact (Blk.new w8 _ _).cell 0
                  · exact (Blk.new w8 _ _).cell 1
                  rintro e w9 ⟨rfl, rfl⟩
                  have HB9 := hid (HB8.out.alloc HB8.out.size (.cells #[.int .i64 ci, .int .i64 cs] 3))
                  go_wp2_with fail
                  exact ⟨⟨i + 1, u, by omega, by go_num, rfl, hx2, HN, HB9.out⟩, by simp [intOf]; omega⟩
                · rw [decide_eq_false hlt] at hor
                  have HN := hid (show b2 = bstI M L q (i + 1) (bstO M L j) by
                    rw [HNX.out]; unfold bet betB
                    rw [decide_eq_false hlt, Bool.or_false]
                    cases b2 with | nil => exact absurd rfl HB0.out | cons => rfl)
                  clear hlt HNX HBI
                  go_wp2_with fail
                  rw [HSU.out.1, HSU.out.2]
                  refine CL.out.mono ?_
                  rintro e w9 ⟨rfl, rfl⟩
                  go_wp2_with fail
                  refine CW.out.mono ?_
                  rintro e w9 ⟨rfl, rfl⟩
                  go_wp2_with fail
                  refine (OR.out _ ?_ ?_).mono ?_
                  · exact (Blk.new w8 _ _).cell 0
                  · exact (Blk.new w8 _ _).cell 1
                  rintro e w9 ⟨rfl, rfl⟩
                  have HB9 := hid (HB8.out.alloc HB8.out.size (.cells #[.int .i64 ci, .int .i64 cs] 3))
                  go_wp2_with fail
                  exact ⟨⟨i + 1, b2, by omega, by go_num, rfl, hbl2, HN, HB9.out⟩, by simp [intOf]; omega⟩
            · have hie : i = j := by omega
              subst hie
              have HN := hid (show b2 = bstO M L (i + 1) by rw [bstO_succ M L i HQ.out]; exact HBI.out)
              clear HBI
              go_wp2_with fail
              exact ⟨⟨i + 1, b2, by omega, by go_num, rfl, hbl2, HN, HBW2.out⟩, by simp [intOf]; omega⟩
        · have hjk2 : j = k := by omega
          have HBJ2 := hid (show b = bstO M L k by rw [← hjk2]; exact HBJ.out)
          have hall : b.all (letB M.length) = true := by rw [HBJ2.out]; exact BE1.out
          rw [← HBJ2.out] at be3 hIL hIN HGR2
          have HBX := hid (HB5.out.trans (HBW.out.mono HB5.out.size))
          have PR2 := hid (fun (t d : Nat) (ht : t < 2 ^ n) (hd : d < M.length) => PR.out t d wr HBX.out (HF.out t ht) hd)
          have HPL := hid (fun (t d : Nat) (ht : t < 2 ^ n) (hd : d < M.length) => show press M t d < 2 ^ n from by
            have := HIM.out t [UInt8.ofNat (97 + d)] ht
            rw [imgW_cons, imgW_nil, UInt8.toNat_ofNat', show (97 + d) % 2 ^ 8 - 97 = d by omega] at this
            exact this)
          have HALL := hid hall
          have HDD := hid (show (mkS b).data.toList = b from rfl)
          have hbs := mkS_size b
          obtain ⟨sb, hsb⟩ : ∃ sb, sb = mkS b := ⟨_, rfl⟩
          rw [← hsb] at HDD hbs ⊢
          have HSB := hid hsb
          have d8 : decide (j < k) = false := decide_eq_false hjk
          have HBS := hid hbs
          have hsl : sb.size ≤ 44 := by omega
          have HOL := hid (show (out ++ b).length ≤ 44 * (9 - f') by rw [List.length_append]; omega)
          have hcc : ¬ 9223372036854775807 < (mkS out).size + sb.size := by rw [mkS_size]; omega
          have HE3 := hid be3
          clear hall hsb hjk2 hbs HBJ be3
          go_wp2_with fail
          go_loop [4, 75] (fun tv iv => ∃ i t : Nat, i ≤ sb.size ∧ iv = .int .i64 i ∧ tv = .int .i64 t ∧ t < 2 ^ n ∧ Hid (imgW M s b = imgW M t (sb.data.toList.drop i))) (fun _ iv => sb.size - (intOf iv).toNat)
          case atStart => exact ⟨0, s, by omega, rfl, rfl, hs, by rw [Hid, List.drop_zero, HDD.out]⟩
          case round =>
            obtain ⟨i, t, hi, rfl, rfl, ht, HT⟩ := hrel
            by_cases hlt : i < sb.size
            · have hd := bytes_drop sb i hlt
              have hallc := (letB_iff _ _).1 (List.all_eq_true.1 HALL.out sb[i] (by rw [← HDD.out]; exact byte_mem sb i hlt))
              have HD := hid hd
              clear hd
              obtain ⟨ch, hch⟩ : ∃ ch, ch = sb[i] := ⟨_, rfl⟩
              rw [← hch] at HD hallc
              have hcn : ((sb[i].toNat : Nat) : Int) = (ch.toNat : Int) := by rw [hch]
              have HCH := hid hch
              clear hch
              have e1 : IntKind.u8.wrap ((ch.toNat : Int) - 97) = ((ch.toNat - 97 : Nat) : Int) := by rw [IntWalk.u8_in _ (by omega)]; omega
              have hfin : imgW M s b = imgW M (press M t (ch.toNat - 97)) (sb.data.toList.drop (i + 1)) := by
                rw [HT.out, HD.out, imgW_cons]
              obtain ⟨d, hdd⟩ : ∃ d, d = ch.toNat - 97 := ⟨_, rfl⟩
              rw [← hdd] at e1 hfin
              have hd4 : d < M.length := by omega
              have CC := hid (PR2.out t d ht hd4)
              have hz5 := HPL.out t d ht hd4
              obtain ⟨z, hz⟩ : ∃ z, z = press M t d := ⟨_, rfl⟩
              rw [← hz] at CC hfin hz5
              have HFN := hid hfin
              clear hfin hdd hz
              go_wp2_with fail
              refine CC.out.mono ?_
              rintro e w11 ⟨rfl, rfl⟩
              go_wp2_with fail
              exact ⟨⟨i + 1, z, by omega, by go_num, rfl, hz5, HFN⟩, by simp [intOf]; omega⟩
            · have hfin : imgW M s b = t := by
                rw [HT.out, bytes_drop_end sb i (by omega)]; rfl
              rw [hfin] at hIL hIN HGR2 HE3
              have HFN := hid hfin
              clear hfin
              have happ := mkS_append out b
              rw [← HSB.out] at happ
              have HAPP := hid happ
              clear happ
              go_wp2_with fail
              rw [HAPP.out]
              have hE3 := HE3.out
              have hk2 := HKK.out
              exact ⟨⟨t, f', out ++ b, rfl, rfl, ht, hIN.out, by omega, by omega, HOL.out, HGR2, HBX.out⟩, by simp [intOf]; omega⟩
    · have SZ1 := hid SZ1
      have hfin : grd M = out := by rw [← HGR.out, grdF_end h1]
      have HFN := hid hfin
      have d0' : decide ((sizeN s : Int) > 1) = false := decide_eq_false (by omega)
      have d0 : decide (1 < sizeN s) = false := decide_eq_false h1
      generalize sizeN s = k at *
      clear hfin
      go_wp2_with fail
      refine SZ1.out.mono ?_
      rintro e w4 ⟨rfl, rfl⟩
      go_wp2_with fail
      refine bodyPost_ret (results_tmp2 rfl _ _ _) rfl ?_
      rw [HFN.out]
      exact ⟨rfl, HB.out⟩
end Go.Proofs.YthlgdakdjikjhaaDoor
