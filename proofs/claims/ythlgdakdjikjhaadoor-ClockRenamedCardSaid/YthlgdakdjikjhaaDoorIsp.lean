/-
  Machines with renamed states: plain laws. No program.
-/
import Derived.Test.YthlgdakdjikjhaaDoorIso
import Derived.Test.YthlgdakdjikjhaaDoorLawAgree
namespace Go.Proofs.YthlgdakdjikjhaaDoor

/-- A set with renamed states. -/
def permS (P : List Nat) (s : Nat) : Nat := (listN s).foldl (fun t q => t ||| 2 ^ (P.getD q 0)) 0
theorem foldl_or_bit (g : Nat → Nat) (x : Nat) : ∀ (l : List Nat) (a : Nat), (l.foldl (fun t q => t ||| 2 ^ (g q)) a).testBit x = true ↔ a.testBit x = true ∨ ∃ q ∈ l, g q = x := by
  intro l
  induction l with
  | nil => intro a; simp
  | cons q r ih =>
    intro a
    rw [List.foldl_cons, ih, Nat.testBit_or, Bool.or_eq_true, Nat.testBit_two_pow, decide_eq_true_eq]
    constructor
    · rintro ((h | h) | ⟨y, h1, h2⟩)
      · exact .inl h
      · exact .inr ⟨q, List.mem_cons_self .., h⟩
      · exact .inr ⟨y, List.mem_cons_of_mem _ h1, h2⟩
    · rintro (h | ⟨y, h1, h2⟩)
      · exact .inl (.inl h)
      · rcases List.mem_cons.1 h1 with h1 | h1
        · subst h1; exact .inl (.inr h2)
        · exact .inr ⟨y, h1, h2⟩
/-- Two machines, and names that turn the one into the other. -/
structure Ren (X Z : List (List Nat)) (P : List Nat) : Prop where
  x : OkM X
  z : OkM Z
  len : X.length = Z.length
  n : nst X = nst Z
  full : Full X Z P
theorem Ren.at {X Z : List (List Nat)} {P : List Nat} (h : Ren X Z P) {q : Nat} (hq : q < nst X) : P.getD q 0 < nst X := by
  have hl := h.full.len
  rw [List.getD, List.getElem?_eq_getElem (by omega)]
  exact h.full.lt _ (List.getElem_mem _)
theorem Ren.inj {X Z : List (List Nat)} {P : List Nat} (h : Ren X Z P) {p q : Nat} (hp : p < nst X) (hq : q < nst X) (he : P.getD p 0 = P.getD q 0) : p = q := by
  have hl := h.full.len
  rw [List.getD, List.getD, List.getElem?_eq_getElem (by omega), List.getElem?_eq_getElem (by omega)] at he
  have he : P[p]'(by omega) = P[q]'(by omega) := he
  rcases Nat.lt_trichotomy p q with h1 | h1 | h1
  · exact absurd he (List.pairwise_iff_getElem.1 h.full.nodup p q (by omega) (by omega) h1)
  · exact h1
  · exact absurd he.symm (List.pairwise_iff_getElem.1 h.full.nodup q p (by omega) (by omega) h1)
theorem Ren.surj {X Z : List (List Nat)} {P : List Nat} (h : Ren X Z P) {t : Nat} (ht : t < nst X) : ∃ q, q < nst X ∧ P.getD q 0 = t := by
  have hl := h.full.len
  have hm : t ∈ P := Classical.byContradiction fun hn => by
    have h1 := len_sub P ((List.range (nst X)).erase t) h.full.nodup fun x hx => by
      rw [List.nodup_range.mem_erase_iff]
      exact ⟨fun e => hn (e ▸ hx), List.mem_range.2 (h.full.lt x hx)⟩
    rw [List.length_erase_of_mem (List.mem_range.2 ht), List.length_range] at h1
    omega
  obtain ⟨q, hq, he⟩ := List.getElem_of_mem hm
  exact ⟨q, by omega, by rw [List.getD, List.getElem?_eq_getElem hq]; exact he⟩
theorem Ren.bit {X Z : List (List Nat)} {P : List Nat} (h : Ren X Z P) {s : Nat} (hs : s < 2 ^ nst X) (t : Nat) : (permS P s).testBit t = true ↔ ∃ q, s.testBit q = true ∧ P.getD q 0 = t := by
  unfold permS
  rw [foldl_or_bit]
  constructor
  · rintro (h1 | ⟨q, h1, h2⟩)
    · simp at h1
    · exact ⟨q, (listN_bit h.x hs q).1 h1, h2⟩
  · rintro ⟨q, h1, h2⟩
    exact .inr ⟨q, (listN_bit h.x hs q).2 h1, h2⟩
theorem Ren.lt {X Z : List (List Nat)} {P : List Nat} (h : Ren X Z P) {s : Nat} (hs : s < 2 ^ nst X) : permS P s < 2 ^ nst X := by
  refine Nat.lt_pow_two_of_testBit _ fun i hi => ?_
  rw [← Bool.not_eq_true, h.bit hs]
  rintro ⟨q, h1, h2⟩
  have := h.at (bit_lt hs h1)
  omega
theorem tr_lt {M : List (List Nat)} (hM : OkM M) : ∀ (l : List UInt8) (q : Nat), l.all (letB M.length) = true → q < nst M → tr M q l < nst M := by
  intro l
  induction l with
  | nil => intro q _ hq; exact hq
  | cons c l ih =>
    intro q hl hq
    rw [List.all_cons, Bool.and_eq_true] at hl
    have hc := (letB_iff _ _).1 hl.1
    exact ih _ hl.2 (stp_lt hM (by omega) hq)
theorem Ren.tr {X Z : List (List Nat)} {P : List Nat} (h : Ren X Z P) : ∀ (l : List UInt8) (q : Nat), l.all (letB X.length) = true → q < nst X → YthlgdakdjikjhaaDoor.tr Z (P.getD q 0) l = P.getD (YthlgdakdjikjhaaDoor.tr X q l) 0 := by
  intro l
  induction l with
  | nil => intro q _ _; rfl
  | cons c l ih =>
    intro q hl hq
    rw [List.all_cons, Bool.and_eq_true] at hl
    have hc := (letB_iff _ _).1 hl.1
    show YthlgdakdjikjhaaDoor.tr Z (stp Z (P.getD q 0) (c.toNat - 97)) l = P.getD (YthlgdakdjikjhaaDoor.tr X (stp X q (c.toNat - 97)) l) 0
    rw [h.full.eq (c.toNat - 97) q (by omega) hq]
    exact ih _ hl.2 (stp_lt h.x (by omega) hq)
theorem Ren.img {X Z : List (List Nat)} {P : List Nat} (h : Ren X Z P) {l : List UInt8} (hl : l.all (letB X.length) = true) {s : Nat} (hs : s < 2 ^ nst X) : imgW Z (permS P s) l = permS P (imgW X s l) := by
  have hlz : l.all (letB Z.length) = true := by rw [← h.len]; exact hl
  refine Nat.eq_of_testBit_eq fun t => ?_
  rw [Bool.eq_iff_iff, imgW_bit h.z l _ t hlz (by rw [← h.n]; exact h.lt hs), h.bit (imgW_lt h.x l s hs)]
  constructor
  · rintro ⟨r, h1, h2⟩
    obtain ⟨q, h3, h4⟩ := (h.bit hs r).1 h1
    have hq := bit_lt hs h3
    exact ⟨_, (imgW_bit h.x l s _ hl hs).2 ⟨q, h3, rfl⟩, by rw [← h.tr l q hl hq, h4]; exact h2⟩
  · rintro ⟨r, h1, h2⟩
    obtain ⟨q, h3, h4⟩ := (imgW_bit h.x l s r hl hs).1 h1
    have hq := bit_lt hs h3
    exact ⟨P.getD q 0, (h.bit hs _).2 ⟨q, h3, rfl⟩, by rw [h.tr l q hl hq, h4]; exact h2⟩
theorem Ren.size {X Z : List (List Nat)} {P : List Nat} (h : Ren X Z P) {s : Nat} (hs : s < 2 ^ nst X) : sizeN (permS P s) = sizeN s := by
  have hp := h.lt hs
  refine Nat.le_antisymm ?_ ?_
  · have := len_sub (listN (permS P s)) ((listN s).map fun q => P.getD q 0) (listN_nodup _) fun t ht => by
      obtain ⟨q, h1, h2⟩ := (h.bit hs t).1 ((listN_bit h.x hp t).1 ht)
      exact List.mem_map.2 ⟨q, (listN_bit h.x hs q).2 h1, h2⟩
    rw [List.length_map] at this
    exact this
  · have hnd : ((listN s).map fun q => P.getD q 0).Nodup := by
      refine List.pairwise_map.2 (List.Pairwise.imp_of_mem (fun {p q} hp hq hne he => hne ?_) (listN_nodup s))
      exact h.inj (bit_lt hs ((listN_bit h.x hs p).1 hp)) (bit_lt hs ((listN_bit h.x hs q).1 hq)) he
    have := len_sub _ (listN (permS P s)) hnd fun t ht => by
      obtain ⟨q, h1, rfl⟩ := List.mem_map.1 ht
      exact (listN_bit h.x hp _).2 ((h.bit hs _).2 ⟨q, (listN_bit h.x hs q).1 h1, rfl⟩)
    rw [List.length_map] at this
    exact this
theorem Ren.all {X Z : List (List Nat)} {P : List Nat} (h : Ren X Z P) : permS P (allS X) = allS Z := by
  refine Nat.eq_of_testBit_eq fun t => ?_
  rw [Bool.eq_iff_iff, h.bit (allS_lt h.x), allS_bit]
  constructor
  · rintro ⟨q, h1, h2⟩
    have := h.at ((allS_bit q).1 h1)
    rw [← h.n]; omega
  · intro ht
    obtain ⟨q, h1, h2⟩ := h.surj (t := t) (by rw [h.n]; exact ht)
    exact ⟨q, (allS_bit q).2 h1, h2⟩
/-- All words leave as many states. -/
theorem Ren.eqSize {X Z : List (List Nat)} {P : List Nat} (h : Ren X Z P) {l : List UInt8} (hl : l.all (letB X.length) = true) : sizeN (imgW Z (allS Z) l) = sizeN (imgW X (allS X) l) := by
  rw [← h.all, h.img hl (allS_lt h.x), h.size (imgW_lt h.x l _ (allS_lt h.x))]
theorem leW_antisymm {a b : List UInt8} (h : leW a b) (h2 : leW b a) : a = b := by
  rcases h with h | h
  · exact h
  · exact absurd h (leW_not h2)
/-- The first word that leaves a wanted number of states is the same one. -/
theorem Ren.first {X Z : List (List Nat)} {P : List Nat} (h : Ren X Z P) (m : Nat) {x : Ent} (hx : firstE X (allS X) (hasB m) = some x) : ∃ z, firstE Z (allS Z) (hasB m) = some z ∧ z.word = x.word ∧ z.set = permS P x.set := by
  obtain ⟨h1, h2, h3, -⟩ := firstE_word h.x (allS_lt h.x) hx
  have hz1 : x.word.all (letB Z.length) = true := by rw [← h.len]; exact h1
  obtain ⟨z, hz, hle⟩ := firstE_le h.z (allS_lt h.z) (wt := hasB m) hz1 (by
    unfold hasB at h3 ⊢
    rw [h.eqSize h1, h2]; exact h3)
  obtain ⟨k1, k2, k3, -⟩ := firstE_word h.z (allS_lt h.z) hz
  have hx1 : z.word.all (letB X.length) = true := by rw [h.len]; exact k1
  obtain ⟨x', hx', hle2⟩ := firstE_le h.x (allS_lt h.x) (wt := hasB m) hx1 (by
    unfold hasB at k3 ⊢
    rw [← h.eqSize hx1, k2]; exact k3)
  rw [hx] at hx'
  cases hx'
  have he := leW_antisymm hle hle2
  exact ⟨z, hz, he, by rw [← k2, he, ← h.all, h.img h1 (allS_lt h.x), h2]⟩
theorem Ren.firstN {X Z : List (List Nat)} {P : List Nat} (h : Ren X Z P) (m : Nat) (hx : firstE X (allS X) (hasB m) = none) : firstE Z (allS Z) (hasB m) = none := by
  cases hz : firstE Z (allS Z) (hasB m) with
  | none => rfl
  | some z =>
    obtain ⟨k1, k2, k3, -⟩ := firstE_word h.z (allS_lt h.z) hz
    have hx1 : z.word.all (letB X.length) = true := by rw [h.len]; exact k1
    obtain ⟨x', hx', -⟩ := firstE_le h.x (allS_lt h.x) (wt := hasB m) hx1 (by
      unfold hasB at k3 ⊢
      rw [← h.eqSize hx1, k2]; exact k3)
    rw [hx] at hx'; cases hx'
theorem minN_word {M : List (List Nat)} (hM : OkM M) : ∃ l : List UInt8, l.all (letB M.length) = true ∧ sizeN (imgW M (allS M) l) = minN M := by
  obtain ⟨x, -, h2, h3, h4, -⟩ := rank_some hM
  exact ⟨x.word, h3, by rw [h4]; exact h2⟩
theorem minN_le {M : List (List Nat)} (hM : OkM M) {l : List UInt8} (hl : l.all (letB M.length) = true) : minN M ≤ sizeN (imgW M (allS M) l) := by
  obtain ⟨y, hy, he⟩ := reach_all hM (allS_lt hM) l hl
  rw [← he]; exact minN_lb hy
theorem Ren.min {X Z : List (List Nat)} {P : List Nat} (h : Ren X Z P) : minN Z = minN X := by
  obtain ⟨l, h1, h2⟩ := minN_word h.x
  obtain ⟨l', k1, k2⟩ := minN_word h.z
  have a1 := minN_le h.z (l := l) (by rw [← h.len]; exact h1)
  have k1' : l'.all (letB X.length) = true := by rw [h.len]; exact k1
  have a2 := minN_le h.x k1'
  rw [h.eqSize h1, h2] at a1
  rw [← h.eqSize k1', k2] at a2
  omega
theorem low_pow : ∀ p : Nat, p < 9 → lowN (2 ^ p) = p := by decide
theorem list_pow : ∀ p : Nat, p < 9 → listN (2 ^ p) = [p] := by decide
/-- The state that is left is renamed. -/
theorem Ren.low {X Z : List (List Nat)} {P : List Nat} (h : Ren X Z P) {s : Nat} (hs : s < 2 ^ nst X) (h1 : sizeN s = 1) : lowN (permS P s) = P.getD (lowN s) 0 ∧ lowN s < nst X := by
  have hn9 := h.x.n9
  obtain ⟨he, h9⟩ := size1_pow s (lt512 h.x hs) h1
  have hb : s.testBit (lowN s) = true := by rw [he, Nat.testBit_two_pow]; simp [← he]
  have hl := bit_lt hs hb
  refine ⟨?_, hl⟩
  have : permS P s = 2 ^ (P.getD (lowN s) 0) := by
    unfold permS
    rw [he, list_pow _ h9, low_pow _ h9]
    show 0 ||| 2 ^ _ = _
    rw [Nat.zero_or]
  rw [this, low_pow _ (by have := h.at hl; omega)]
/-- The names turned back. -/
def invP (n : Nat) (P : List Nat) : List Nat := (List.range n).map fun t => P.idxOf t
theorem Ren.idx {X Z : List (List Nat)} {P : List Nat} (h : Ren X Z P) {q : Nat} (hq : q < nst X) : P.idxOf (P.getD q 0) = q := by
  have hl := h.full.len
  rw [List.getD, List.getElem?_eq_getElem (by omega)]
  exact h.full.nodup.idxOf_getElem q (by omega)
theorem inv_getD {n : Nat} {P : List Nat} {t : Nat} (ht : t < n) : (invP n P).getD t 0 = P.idxOf t := by
  unfold invP
  rw [List.getD, List.getElem?_map, List.getElem?_range ht]; rfl
theorem Ren.inv {X Z : List (List Nat)} {P : List Nat} (h : Ren X Z P) : Ren Z X (invP (nst X) P) := by
  refine ⟨h.z, h.x, h.len.symm, h.n.symm, ?_, ?_, ?_, ?_⟩
  · unfold invP; rw [List.length_map, List.length_range, h.n]
  · unfold invP
    refine List.pairwise_map.2 (List.Pairwise.imp_of_mem (fun {a b} ha hb hne he => hne ?_) List.nodup_range)
    obtain ⟨p, hp, rfl⟩ := h.surj (List.mem_range.1 ha)
    obtain ⟨q, hq, rfl⟩ := h.surj (List.mem_range.1 hb)
    rw [h.idx hp, h.idx hq] at he
    rw [he]
  · intro x hx
    obtain ⟨t, ht, rfl⟩ := List.mem_map.1 hx
    obtain ⟨q, hq, rfl⟩ := h.surj (List.mem_range.1 ht)
    rw [h.idx hq, ← h.n]; exact hq
  · intro b t hb ht
    rw [← h.n] at ht
    rw [← h.len] at hb
    obtain ⟨q, hq, rfl⟩ := h.surj ht
    rw [inv_getD ht, h.idx hq, h.full.eq b q hb hq]
    have hs := stp_lt h.x hb hq
    rw [inv_getD (h.at hs), h.idx hs]
theorem same_ren {X Z : List (List Nat)} (hX : OkM X) (hZ : OkM Z) : sameB X Z = true ↔ ∃ P, Ren X Z P := by
  rw [same_iff hX]
  exact ⟨fun ⟨a, b, P, h⟩ => ⟨P, hX, hZ, a, b, h⟩, fun ⟨P, h⟩ => ⟨h.len, h.n, P, h.full⟩⟩
/-- Same is symmetric. -/
theorem same_symm {X Z : List (List Nat)} (hX : OkM X) (hZ : OkM Z) : sameB X Z = sameB Z X := by
  rw [Bool.eq_iff_iff, same_ren hX hZ, same_ren hZ hX]
  exact ⟨fun ⟨_, h⟩ => ⟨_, h.inv⟩, fun ⟨_, h⟩ => ⟨_, h.inv⟩⟩
theorem same_rank {X Z : List (List Nat)} (hX : OkM X) (hZ : OkM Z) (h : sameB X Z = true) : minN Z = minN X := by
  obtain ⟨P, hP⟩ := (same_ren hX hZ).1 h
  exact hP.min

/-- Names made of any list. -/
def atN (z : List Int) (i : Nat) : Nat := if i < z.length then modN (z.getD i 0) (i + 1) else i
def nmF (z : List Int) : Nat → List Nat
  | 0 => []
  | i + 1 => (nmF z i).take (atN z i) ++ [i] ++ (nmF z i).drop (atN z i)
theorem atN_le (z : List Int) (i : Nat) : atN z i ≤ i := by
  unfold atN
  split
  · have := modN_lt (z.getD i 0) (i + 1) (by omega); omega
  · exact Nat.le_refl _
theorem nmF_perm (z : List Int) : ∀ i, (nmF z i).Perm (List.range i) := by
  intro i
  induction i with
  | zero => exact List.Perm.refl _
  | succ i ih =>
    rw [nmF, List.range_succ, List.append_assoc]
    refine List.Perm.trans ?_ (ih.append_right [i])
    have h1 : (([i] ++ (nmF z i).drop (atN z i)) : List Nat).Perm ((nmF z i).drop (atN z i) ++ [i]) := List.perm_append_comm
    have h2 := List.Perm.append_left ((nmF z i).take (atN z i)) h1
    refine h2.trans ?_
    rw [← List.append_assoc, List.take_append_drop]
theorem nmF_len (z : List Int) (i : Nat) : (nmF z i).length = i := by
  rw [(nmF_perm z i).length_eq, List.length_range]
theorem nmF_lt (z : List Int) (i : Nat) : ∀ x ∈ nmF z i, x < i := fun _ hx => List.mem_range.1 ((nmF_perm z i).mem_iff.1 hx)
theorem nmF_nodup (z : List Int) (i : Nat) : (nmF z i).Nodup := (nmF_perm z i).nodup_iff.2 List.nodup_range
/-- A row of the renamed machine. -/
def rowY (M : List (List Nat)) (P : List Nat) (b : Nat) : List Nat := (List.range (nst M)).map fun t => P.getD (stp M (P.idxOf t) b) 0
def machY (M : List (List Nat)) (P : List Nat) (k : Nat) : List (List Nat) := (List.range k).map (rowY M P)
theorem machY_succ (M : List (List Nat)) (P : List Nat) (k : Nat) : machY M P (k + 1) = machY M P k ++ [rowY M P k] := by
  unfold machY; rw [List.range_succ, List.map_append]; rfl
theorem machY_len (M : List (List Nat)) (P : List Nat) (k : Nat) : (machY M P k).length = k := by simp [machY]
theorem rowY_len (M : List (List Nat)) (P : List Nat) (b : Nat) : (rowY M P b).length = nst M := by simp [rowY]
theorem machY_ren {M : List (List Nat)} (hM : OkM M) {P : List Nat} (hl : P.length = nst M) (hn : P.Nodup) (hlt : ∀ x ∈ P, x < nst M) : Ren M (machY M P M.length) P := by
  have hb1 := hM.b1
  have hn1 := hM.n1
  have hY : nst (machY M P M.length) = nst M := by
    unfold nst machY
    obtain ⟨k, hk⟩ : ∃ k, M.length = k + 1 := ⟨M.length - 1, by omega⟩
    rw [hk, List.range_succ_eq_map]
    show (rowY M P 0).length = _
    exact rowY_len M P 0
  have hg : ∀ q, P.getD q 0 < nst M := fun q => by
    rw [List.getD]
    cases h : P[q]? with
    | none => exact hn1
    | some x => exact hlt x (List.mem_of_getElem? h)
  have hOk : OkM (machY M P M.length) := by
    refine ⟨by rw [machY_len]; exact hb1, by rw [machY_len]; exact hM.b4, by rw [hY]; exact hn1, by rw [hY]; exact hM.n9, ?_, ?_⟩
    · intro r hr
      obtain ⟨b, -, rfl⟩ := List.mem_map.1 hr
      rw [hY]; exact rowY_len M P b
    · intro r hr q hq
      obtain ⟨b, -, rfl⟩ := List.mem_map.1 hr
      obtain ⟨t, -, rfl⟩ := List.mem_map.1 hq
      rw [hY]; exact hg _
  refine ⟨hM, hOk, (machY_len M P _).symm, hY.symm, hl, hn, hlt, fun b q hb hq => ?_⟩
  have e1 : P.idxOf (P.getD q 0) = q := by
    rw [List.getD, List.getElem?_eq_getElem (by omega)]
    exact hn.idxOf_getElem q (by omega)
  unfold stp
  have e2 : (machY M P M.length).getD b [] = rowY M P b := by
    unfold machY
    rw [List.getD, List.getElem?_map, List.getElem?_range hb]; rfl
  rw [e2]
  unfold rowY
  rw [List.getD, List.getElem?_map, List.getElem?_range (hg q)]
  show P.getD (stp M (P.idxOf (P.getD q 0)) b) 0 = _
  rw [e1]
  rfl
end Go.Proofs.YthlgdakdjikjhaaDoor
