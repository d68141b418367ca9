/-
  Texts merged: Pure, Bfs, Img, Sets, Lin.
-/

/-
  Machines: plain definitions.
-/
namespace Go.Proofs.YthlgdakdjikjhaaDoor

/-- Lists of numbers are a machine. -/
def machineB (X : List (List Int)) : Bool :=
  decide (1 ≤ X.length) && decide (X.length ≤ 4) && decide (1 ≤ (X.headD []).length) && decide ((X.headD []).length ≤ 9) &&
  X.all fun r => r.length == (X.headD []).length && r.all fun q => decide (0 ≤ q) && decide (q < ((X.headD []).length : Int))
/-- How many states a machine has. -/
def nst (M : List (List Nat)) : Nat := (M.headD []).length
structure OkM (M : List (List Nat)) : Prop where
  b1 : 1 ≤ M.length
  b4 : M.length ≤ 4
  n1 : 1 ≤ nst M
  n9 : nst M ≤ 9
  row : ∀ r ∈ M, r.length = nst M
  lt : ∀ r ∈ M, ∀ q ∈ r, q < nst M
/-- The numbers of a machine, as the program has them. -/
def intM (M : List (List Nat)) : List (List Int) := M.map (·.map fun (x : Nat) => (x : Int))
theorem intM_length (M : List (List Nat)) : (intM M).length = M.length := by simp [intM]
theorem intM_head (M : List (List Nat)) : ((intM M).headD []).length = nst M := by
  cases M <;> simp [intM, nst]
theorem machine_ok (X : List (List Int)) (h : machineB X = true) : ∃ M, X = intM M ∧ OkM M := by
  simp only [machineB, Bool.and_eq_true, decide_eq_true_eq, List.all_eq_true, beq_iff_eq] at h
  obtain ⟨⟨⟨⟨h1, h2⟩, h3⟩, h4⟩, h5⟩ := h
  have hX : X = intM (X.map (·.map Int.toNat)) := by
    unfold intM
    rw [List.map_map]
    refine (List.map_id X).symm.trans (List.map_congr_left fun r hr => ?_)
    simp only [id, Function.comp, List.map_map]
    refine (List.map_id r).symm.trans (List.map_congr_left fun q hq => ?_)
    have := (h5 r hr).2 q hq
    simp only [id, Function.comp]; omega
  have hn : nst (X.map (·.map Int.toNat)) = (X.headD []).length := by
    have := intM_head (X.map (·.map Int.toNat))
    rw [← hX] at this; exact this.symm
  refine ⟨_, hX, by simpa using h1, by simpa using h2, by rw [hn]; exact h3, by rw [hn]; exact h4, ?_, ?_⟩
  · intro r hr
    obtain ⟨s, hs, rfl⟩ := List.mem_map.1 hr
    rw [hn, List.length_map]; exact (h5 s hs).1
  · intro r hr q hq
    obtain ⟨s, hs, rfl⟩ := List.mem_map.1 hr
    obtain ⟨p, hp, rfl⟩ := List.mem_map.1 hq
    have := (h5 s hs).2 p hp
    rw [hn]; omega
theorem ok_machine (M : List (List Nat)) (h : OkM M) : machineB (intM M) = true := by
  simp only [machineB, Bool.and_eq_true, decide_eq_true_eq, List.all_eq_true, beq_iff_eq, intM_length, intM_head]
  refine ⟨⟨⟨⟨h.b1, h.b4⟩, h.n1⟩, h.n9⟩, fun r hr => ?_⟩
  obtain ⟨s, hs, rfl⟩ := List.mem_map.1 hr
  refine ⟨by rw [List.length_map]; exact h.row s hs, fun q hq => ?_⟩
  obtain ⟨p, hp, rfl⟩ := List.mem_map.1 hq
  have := h.lt s hs p hp
  omega

/-- The image of a set under a row of states, from state q on. -/
def prF (s : Nat) : List Nat → Nat → Nat → Nat
  | [], _, out => out
  | p :: r, q, out => prF s r (q + 1) (if s.testBit q then out ||| 2 ^ p else out)
def press (M : List (List Nat)) (s b : Nat) : Nat := prF s (M.getD b []) 0 0
theorem prF_lt (s n : Nat) : ∀ (r : List Nat) (q out : Nat), out < 2 ^ n → (∀ p ∈ r, p < n) → prF s r q out < 2 ^ n := by
  intro r
  induction r with
  | nil => intro q out h _; exact h
  | cons p r ih =>
    intro q out h hr
    rw [prF]
    refine ih _ _ ?_ fun x hx => hr x (List.mem_cons_of_mem _ hx)
    split
    · exact Nat.or_lt_two_pow h (Nat.pow_lt_pow_right (by omega) (hr p (List.mem_cons_self ..)))
    · exact h
theorem getD_mem {M : List (List Nat)} {b : Nat} (hb : b < M.length) : M.getD b [] ∈ M := by
  rw [List.getD, List.getElem?_eq_getElem hb]; exact List.getElem_mem hb
theorem press_lt {M : List (List Nat)} (h : OkM M) (s b : Nat) : press M s b < 2 ^ nst M := by
  rcases Nat.lt_or_ge b M.length with hb | hb
  · exact prF_lt s _ _ _ _ (Nat.two_pow_pos _) (h.lt _ (getD_mem hb))
  · unfold press; rw [List.getD, List.getElem?_eq_none hb]; exact Nat.two_pow_pos _
/-- The states of a set. -/
def listN (s : Nat) : List Nat := (List.range 9).filter s.testBit
def sizeN (s : Nat) : Nat := (listN s).length

/-- A set that was reached, the word that leads to it, and the step before. -/
structure Ent where
  set : Nat
  word : List UInt8
  frm : Nat
  btn : Nat
/-- A button tried from an entry. -/
def grow1 (M : List (List Nat)) (x : Ent) (L : List Ent) (b : Nat) : List Ent :=
  if L.any (fun e => e.set == press M x.set b) then L else L ++ [⟨press M x.set b, x.word ++ [UInt8.ofNat (97 + b)], x.set, 97 + b⟩]
/-- The buttons from b on, tried. -/
def growF (M : List (List Nat)) (x : Ent) : Nat → Nat → List Ent → List Ent
  | 0, _, L => L
  | k + 1, b, L => growF M x k (b + 1) (grow1 M x L b)
def bfsF (M : List (List Nat)) : Nat → Nat → List Ent → List Ent
  | 0, _, L => L
  | f + 1, i, L => match L[i]? with
    | none => L
    | some x => bfsF M f (i + 1) (growF M x M.length 0 L)
/-- All images of a set in the order of the words. -/
def reach (M : List (List Nat)) (s : Nat) : List Ent := bfsF M 513 0 [⟨s, [], 0, 0⟩]
end Go.Proofs.YthlgdakdjikjhaaDoor
/-
  The search in breadth: what the lists hold. No program.
-/
namespace Go.Proofs.YthlgdakdjikjhaaDoor

theorem nodup_len : ∀ (k : Nat) (l : List Nat), l.Nodup → (∀ x ∈ l, x < k) → l.length ≤ k := by
  intro k
  induction k with
  | zero =>
    intro l _ h
    cases l with
    | nil => exact Nat.le_refl _
    | cons a l => exact absurd (h a (List.mem_cons_self ..)) (by omega)
  | succ k ih =>
    intro l hn h
    have h1 := ih (l.erase k) (hn.erase k) fun x hx => by
      have h2 := (hn.mem_erase_iff).1 hx
      have := h x h2.2
      have := h2.1
      omega
    rw [List.length_erase] at h1
    split at h1 <;> omega

/-- What the list of reached sets is like. -/
structure Good (M : List (List Nat)) (s : Nat) (L : List Ent) : Prop where
  head : L[0]? = some ⟨s, [], 0, 0⟩
  nodup : (L.map (·.set)).Nodup
  lt : ∀ e ∈ L, e.set < 2 ^ nst M
  par : ∀ (i : Nat) (e : Ent), L[i]? = some e → 1 ≤ i → ∃ (j : Nat) (p : Ent), j < i ∧ L[j]? = some p ∧ e.frm = p.set ∧ e.word = p.word ++ [UInt8.ofNat e.btn] ∧ 97 ≤ e.btn ∧ e.btn < 97 + M.length ∧ e.set = press M p.set (e.btn - 97)

theorem Good.start (M : List (List Nat)) (s : Nat) (hs : s < 2 ^ nst M) : Good M s [⟨s, [], 0, 0⟩] where
  head := rfl
  nodup := by simp
  lt := by simpa using hs
  par := fun i e h hi => by
    cases i with
    | zero => omega
    | succ i => simp at h
theorem Good.len {M : List (List Nat)} {s : Nat} {L : List Ent} (h : Good M s L) (hM : OkM M) : L.length ≤ 512 := by
  have h1 := nodup_len (2 ^ nst M) (L.map (·.set)) h.nodup fun x hx => by
    obtain ⟨e, he, rfl⟩ := List.mem_map.1 hx
    exact h.lt e he
  rw [List.length_map] at h1
  have h2 : 2 ^ nst M ≤ 2 ^ 9 := Nat.pow_le_pow_right (by omega) hM.n9
  have h3 : (2 : Nat) ^ 9 = 512 := rfl
  omega
theorem Good.pos {M : List (List Nat)} {s : Nat} {L : List Ent} (h : Good M s L) : 0 < L.length := by
  have := h.head
  cases L with
  | nil => simp at this
  | cons => simp
theorem any_set (L : List Ent) (y : Nat) : L.any (fun e => e.set == y) = true ↔ y ∈ L.map (·.set) := by
  simp only [List.any_eq_true, beq_iff_eq, List.mem_map]
theorem Good.grow1 {M : List (List Nat)} {s : Nat} {L : List Ent} (h : Good M s L) (hM : OkM M) {j b : Nat} {x : Ent} (hj : L[j]? = some x) (hb : b < M.length) : Good M s (grow1 M x L b) := by
  have hjl : j < L.length := (List.getElem?_eq_some_iff.1 hj).1
  unfold YthlgdakdjikjhaaDoor.grow1
  cases ha : L.any (fun e => e.set == press M x.set b) with
  | true => simpa using h
  | false =>
    simp only [Bool.false_eq_true, if_false]
    have hnew : press M x.set b ∉ L.map (·.set) := fun hm => by rw [(any_set L _).2 hm] at ha; cases ha
    refine ⟨?_, ?_, ?_, ?_⟩
    · rw [List.getElem?_append_left h.pos]; exact h.head
    · rw [List.map_append, List.nodup_append]
      refine ⟨h.nodup, by simp, fun a ha b hb => ?_⟩
      simp only [List.map_cons, List.map_nil, List.mem_singleton] at hb
      subst hb
      intro e; subst e; exact hnew ha
    · intro e he
      rcases List.mem_append.1 he with he | he
      · exact h.lt e he
      · simp only [List.mem_singleton] at he; subst he; exact press_lt hM _ _
    · intro i e hi h1
      rcases Nat.lt_or_ge i L.length with hl | hl
      · rw [List.getElem?_append_left hl] at hi
        obtain ⟨j, p, a1, a2, a3⟩ := h.par i e hi h1
        exact ⟨j, p, a1, by rw [List.getElem?_append_left (by omega)]; exact a2, a3⟩
      · rw [List.getElem?_append_right hl] at hi
        have h0 : i - L.length = 0 := by
          rcases Nat.eq_zero_or_pos (i - L.length) with h0 | h0
          · exact h0
          · rw [List.getElem?_eq_none (by simp; omega)] at hi; cases hi
        rw [h0] at hi
        simp only [List.getElem?_cons_zero, Option.some.injEq] at hi
        subst hi
        exact ⟨j, x, by omega, by rw [List.getElem?_append_left hjl]; exact hj, rfl, rfl, by simp, by simp; omega, by simp⟩
theorem grow1_app (M : List (List Nat)) (x : Ent) (L : List Ent) (b : Nat) : ∃ T, grow1 M x L b = L ++ T := by
  unfold grow1; split
  · exact ⟨[], by simp⟩
  · exact ⟨_, rfl⟩
theorem growF_app (M : List (List Nat)) (x : Ent) : ∀ (k b : Nat) (L : List Ent), ∃ T, growF M x k b L = L ++ T := by
  intro k
  induction k with
  | zero => intro b L; exact ⟨[], by simp [growF]⟩
  | succ k ih =>
    intro b L
    obtain ⟨T, hT⟩ := grow1_app M x L b
    obtain ⟨U, hU⟩ := ih (b + 1) (grow1 M x L b)
    exact ⟨T ++ U, by rw [growF, hU, hT, List.append_assoc]⟩
theorem app_at {L T : List Ent} {j : Nat} {x : Ent} (h : L[j]? = some x) : (L ++ T)[j]? = some x := by
  rw [List.getElem?_append_left (List.getElem?_eq_some_iff.1 h).1]; exact h
theorem Good.growF {M : List (List Nat)} {s : Nat} (hM : OkM M) {j : Nat} {x : Ent} : ∀ (k b : Nat) (L : List Ent), Good M s L → L[j]? = some x → b + k ≤ M.length → Good M s (growF M x k b L) := by
  intro k
  induction k with
  | zero => intro b L h _ _; exact h
  | succ k ih =>
    intro b L h hj hb
    obtain ⟨T, hT⟩ := grow1_app M x L b
    refine ih (b + 1) _ (h.grow1 hM hj (by omega)) ?_ (by omega)
    rw [hT]; exact app_at hj
theorem bfsF_app (M : List (List Nat)) : ∀ (f i : Nat) (L : List Ent), ∃ T, bfsF M f i L = L ++ T := by
  intro f
  induction f with
  | zero => intro i L; exact ⟨[], by simp [bfsF]⟩
  | succ f ih =>
    intro i L
    rw [bfsF]
    cases h : L[i]? with
    | none => exact ⟨[], by simp⟩
    | some x =>
      obtain ⟨T, hT⟩ := growF_app M x M.length 0 L
      obtain ⟨U, hU⟩ := ih (i + 1) (YthlgdakdjikjhaaDoor.growF M x M.length 0 L)
      exact ⟨T ++ U, by simp only []; rw [hU, hT, List.append_assoc]⟩
theorem Good.bfsF {M : List (List Nat)} {s : Nat} (hM : OkM M) : ∀ (f i : Nat) (L : List Ent), Good M s L → Good M s (bfsF M f i L) := by
  intro f
  induction f with
  | zero => intro i L h; exact h
  | succ f ih =>
    intro i L h
    rw [YthlgdakdjikjhaaDoor.bfsF]
    cases hi : L[i]? with
    | none => exact h
    | some x => exact ih (i + 1) _ (h.growF hM M.length 0 L hi (by omega))
theorem reach_good {M : List (List Nat)} (hM : OkM M) {s : Nat} (hs : s < 2 ^ nst M) : Good M s (reach M s) := Good.bfsF hM _ _ _ (Good.start M s hs)
theorem bfsF_step {M : List (List Nat)} {f i : Nat} {L : List Ent} {x : Ent} (h : L[i]? = some x) : bfsF M (f + 1) i L = bfsF M f (i + 1) (growF M x M.length 0 L) := by
  rw [bfsF, h]
theorem bfsF_end {M : List (List Nat)} {f i : Nat} {L : List Ent} (h : L.length ≤ i) : bfsF M f i L = L := by
  cases f with
  | zero => rfl
  | succ f => rw [bfsF, List.getElem?_eq_none h]
end Go.Proofs.YthlgdakdjikjhaaDoor
/-
  Images of sets under words: plain facts. No program.
-/
namespace Go.Proofs.YthlgdakdjikjhaaDoor

/-- A letter of a machine with k buttons. -/
def letB (k : Nat) (c : UInt8) : Bool := decide (97 ≤ c.toNat) && decide (c.toNat < 97 + k)
theorem letB_iff (k : Nat) (c : UInt8) : letB k c = true ↔ 97 ≤ c.toNat ∧ c.toNat < 97 + k := by simp [letB]
/-- The image of a set under a word. -/
def imgW (M : List (List Nat)) (s : Nat) (l : List UInt8) : Nat := l.foldl (fun t c => press M t (c.toNat - 97)) s
theorem imgW_app (M : List (List Nat)) (s : Nat) (a b : List UInt8) : imgW M s (a ++ b) = imgW M (imgW M s a) b := by simp [imgW, List.foldl_append]
theorem imgW_cons (M : List (List Nat)) (s : Nat) (c : UInt8) (l : List UInt8) : imgW M s (c :: l) = imgW M (press M s (c.toNat - 97)) l := rfl
theorem imgW_nil (M : List (List Nat)) (s : Nat) : imgW M s [] = s := rfl
theorem imgW_lt {M : List (List Nat)} (hM : OkM M) : ∀ (l : List UInt8) (s : Nat), s < 2 ^ nst M → imgW M s l < 2 ^ nst M := by
  intro l
  induction l with
  | nil => intro s h; exact h
  | cons c l ih => intro s h; exact ih _ (press_lt hM _ _)
/-- Bits of an image. -/
theorem prF_bit (s : Nat) : ∀ (r : List Nat) (q out t : Nat), (prF s r q out).testBit t = true ↔ out.testBit t = true ∨ ∃ j p, r[j]? = some p ∧ s.testBit (q + j) = true ∧ p = t := by
  intro r
  induction r with
  | nil => intro q out t; simp [prF]
  | cons p r ih =>
    intro q out t
    rw [prF, ih]
    constructor
    · rintro (h | ⟨j, x, h1, h2, h3⟩)
      · by_cases hs : s.testBit q = true
        · rw [if_pos hs, Nat.testBit_or, Bool.or_eq_true] at h
          rcases h with h | h
          · exact .inl h
          · rw [Nat.testBit_two_pow] at h
            exact .inr ⟨0, p, rfl, hs, by simpa using h⟩
        · rw [if_neg hs] at h; exact .inl h
      · exact .inr ⟨j + 1, x, h1, by rw [show q + (j + 1) = q + 1 + j by omega]; exact h2, h3⟩
    · rintro (h | ⟨j, x, h1, h2, h3⟩)
      · left
        split
        · rw [Nat.testBit_or, h]; rfl
        · exact h
      · cases j with
        | zero =>
          left
          simp only [List.getElem?_cons_zero, Option.some.injEq] at h1
          subst h1; subst h3
          rw [Nat.add_zero] at h2
          rw [if_pos h2, Nat.testBit_or, Nat.testBit_two_pow]
          simp
        | succ j => exact .inr ⟨j, x, h1, by rw [show q + 1 + j = q + (j + 1) by omega]; exact h2, h3⟩
/-- Where a button leads from a state. -/
def stp (M : List (List Nat)) (q b : Nat) : Nat := (M.getD b []).getD q 0
/-- Where a word leads from a state. -/
def tr (M : List (List Nat)) (q : Nat) (l : List UInt8) : Nat := l.foldl (fun t c => stp M t (c.toNat - 97)) q
theorem stp_lt {M : List (List Nat)} (hM : OkM M) {q b : Nat} (hb : b < M.length) (hq : q < nst M) : stp M q b < nst M := by
  have hr := getD_mem hb
  have hl := hM.row _ hr
  unfold stp
  rw [List.getD_eq_getElem?_getD, List.getElem?_eq_getElem (by omega)]
  exact hM.lt _ hr _ (List.getElem_mem _)
theorem tr_app (M : List (List Nat)) (q : Nat) (a b : List UInt8) : tr M q (a ++ b) = tr M (tr M q a) b := by simp [tr, List.foldl_append]
theorem bit_lt {s n t : Nat} (hs : s < 2 ^ n) (h : s.testBit t = true) : t < n := by
  rcases Nat.lt_or_ge t n with h1 | h1
  · exact h1
  · rw [Nat.testBit_lt_two_pow (Nat.lt_of_lt_of_le hs (Nat.pow_le_pow_right (by omega) h1))] at h; cases h
theorem press_bit {M : List (List Nat)} (hM : OkM M) {s b t : Nat} (hb : b < M.length) (hs : s < 2 ^ nst M) : (press M s b).testBit t = true ↔ ∃ q, s.testBit q = true ∧ stp M q b = t := by
  have hl := hM.row _ (getD_mem hb)
  unfold press
  rw [prF_bit]
  constructor
  · rintro (h | ⟨j, p, h1, h2, h3⟩)
    · simp at h
    · rw [Nat.zero_add] at h2
      refine ⟨j, h2, ?_⟩
      unfold stp
      rw [List.getD_eq_getElem?_getD, h1]; exact h3
  · rintro ⟨q, h1, h2⟩
    have hq := bit_lt hs h1
    rw [← hl] at hq
    right
    refine ⟨q, stp M q b, ?_, by rw [Nat.zero_add]; exact h1, h2⟩
    unfold stp
    generalize M.getD b [] = r at *
    rw [List.getD_eq_getElem?_getD, List.getElem?_eq_getElem hq]; rfl
theorem imgW_bit {M : List (List Nat)} (hM : OkM M) : ∀ (l : List UInt8) (s t : Nat), l.all (letB M.length) = true → s < 2 ^ nst M → ((imgW M s l).testBit t = true ↔ ∃ q, s.testBit q = true ∧ tr M q l = t) := by
  intro l
  induction l with
  | nil => intro s t _ _; simp [imgW, tr]
  | cons c l ih =>
    intro s t hl hs
    rw [List.all_cons, Bool.and_eq_true] at hl
    have hc := (letB_iff _ _).1 hl.1
    rw [imgW_cons, ih _ t hl.2 (press_lt hM _ _)]
    constructor
    · rintro ⟨q, h1, h2⟩
      obtain ⟨q0, h3, h4⟩ := (press_bit hM (by omega) hs).1 h1
      exact ⟨q0, h3, by show tr M (stp M q0 (c.toNat - 97)) l = t; rw [h4]; exact h2⟩
    · rintro ⟨q, h1, h2⟩
      exact ⟨stp M q (c.toNat - 97), (press_bit hM (by omega) hs).2 ⟨q, h1, rfl⟩, h2⟩
/-- Lists without doubles. -/
theorem len_sub : ∀ (a b : List Nat), a.Nodup → (∀ x ∈ a, x ∈ b) → a.length ≤ b.length := by
  intro a
  induction a with
  | nil => intro b _ _; simp
  | cons x a ih =>
    intro b hn h
    have hx := h x (List.mem_cons_self ..)
    have hn' := List.nodup_cons.1 hn
    have h1 := ih (b.erase x) hn'.2 fun y hy => by
      have hne : y ≠ x := fun e => hn'.1 (e ▸ hy)
      exact (List.mem_erase_of_ne hne).2 (h y (List.mem_cons_of_mem _ hy))
    rw [List.length_erase_of_mem hx] at h1
    have := List.length_pos_of_mem hx
    rw [List.length_cons]; omega
theorem listN_mem (s q : Nat) : q ∈ listN s ↔ q < 9 ∧ s.testBit q = true := by simp [listN]
theorem listN_nodup (s : Nat) : (listN s).Nodup := List.Pairwise.sublist List.filter_sublist List.nodup_range
theorem lt512 {M : List (List Nat)} (hM : OkM M) {s : Nat} (hs : s < 2 ^ nst M) : s < 512 := Nat.lt_of_lt_of_le hs (Nat.pow_le_pow_right (n := 2) (by omega) hM.n9)
theorem listN_bit {M : List (List Nat)} (hM : OkM M) {s : Nat} (hs : s < 2 ^ nst M) (q : Nat) : q ∈ listN s ↔ s.testBit q = true := by
  rw [listN_mem]
  exact ⟨fun h => h.2, fun h => ⟨by have := bit_lt hs h; have := hM.n9; omega, h⟩⟩
/-- A part has no more states. -/
theorem sizeN_sub {s t : Nat} (h : ∀ q, s.testBit q = true → t.testBit q = true) : sizeN s ≤ sizeN t :=
  len_sub _ _ (listN_nodup s) fun q hq => (listN_mem t q).2 ⟨((listN_mem s q).1 hq).1, h q ((listN_mem s q).1 hq).2⟩
/-- No image has more states. -/
theorem sizeN_img {M : List (List Nat)} (hM : OkM M) {l : List UInt8} {s : Nat} (hl : l.all (letB M.length) = true) (hs : s < 2 ^ nst M) : sizeN (imgW M s l) ≤ sizeN s := by
  have h1 := len_sub (listN (imgW M s l)) ((listN s).map fun q => tr M q l) (listN_nodup _) fun t ht => by
    obtain ⟨q, h1, h2⟩ := (imgW_bit hM l s t hl hs).1 ((listN_bit hM (imgW_lt hM l s hs) t).1 ht)
    exact List.mem_map.2 ⟨q, (listN_bit hM hs q).2 h1, h2⟩
  rw [List.length_map] at h1
  exact h1
/-- .. and fewer where two states meet. -/
theorem sizeN_meet {M : List (List Nat)} (hM : OkM M) {l : List UInt8} {s p q : Nat} (hl : l.all (letB M.length) = true) (hs : s < 2 ^ nst M) (hp : s.testBit p = true) (hq : s.testBit q = true) (hne : p ≠ q) (hm : tr M p l = tr M q l) : sizeN (imgW M s l) < sizeN s := by
  have hqm := (listN_bit hM hs q).2 hq
  have h1 := len_sub (listN (imgW M s l)) (((listN s).erase q).map fun q => tr M q l) (listN_nodup _) fun t ht => by
    obtain ⟨r, h1, h2⟩ := (imgW_bit hM l s t hl hs).1 ((listN_bit hM (imgW_lt hM l s hs) t).1 ht)
    by_cases hr : r = q
    · subst hr
      exact List.mem_map.2 ⟨p, (List.mem_erase_of_ne hne).2 ((listN_bit hM hs p).2 hp), by rw [hm]; exact h2⟩
    · exact List.mem_map.2 ⟨r, (List.mem_erase_of_ne hr).2 ((listN_bit hM hs r).2 h1), h2⟩
  rw [List.length_map, List.length_erase_of_mem hqm] at h1
  have := List.length_pos_of_mem hqm
  unfold sizeN
  omega
/-- What was reached is an image under its word. -/
theorem Good.word {M : List (List Nat)} {s : Nat} {L : List Ent} (h : Good M s L) (h4 : M.length ≤ 4) : ∀ (i : Nat) (e : Ent), L[i]? = some e → e.word.all (letB M.length) = true ∧ imgW M s e.word = e.set := by
  intro i
  induction i using Nat.strongRecOn with
  | _ i ih =>
    intro e he
    rcases Nat.eq_zero_or_pos i with h0 | h0
    · subst h0
      have := h.head
      rw [he] at this
      cases this
      exact ⟨rfl, rfl⟩
    · obtain ⟨j, p, h1, h2, -, hw, hb1, hb2, hset⟩ := h.par i e he h0
      obtain ⟨k1, k2⟩ := ih j h1 p h2
      have hbt : (UInt8.ofNat e.btn).toNat = e.btn := by rw [UInt8.toNat_ofNat']; omega
      rw [hw]
      refine ⟨?_, ?_⟩
      · rw [List.all_append, k1]
        simp [letB, hbt, hb1, hb2]
      · rw [imgW_app, k2, hset, imgW_cons, imgW_nil, hbt]
/-- Everything is reached. -/
theorem grow1_mem {M : List (List Nat)} (x : Ent) (L : List Ent) (b : Nat) : ∃ y ∈ grow1 M x L b, y.set = press M x.set b := by
  unfold grow1
  split
  · rename_i h
    obtain ⟨y, hy, he⟩ := List.any_eq_true.1 h
    exact ⟨y, hy, by simpa using he⟩
  · exact ⟨_, List.mem_append_right _ (List.mem_singleton.2 rfl), rfl⟩
theorem growF_mem {M : List (List Nat)} (x : Ent) : ∀ (k b : Nat) (L : List Ent) (j : Nat), b ≤ j → j < b + k → ∃ y ∈ growF M x k b L, y.set = press M x.set j := by
  intro k
  induction k with
  | zero => intro b L j h1 h2; omega
  | succ k ih =>
    intro b L j h1 h2
    rw [growF]
    rcases Nat.eq_or_lt_of_le h1 with h | h
    · subst h
      obtain ⟨y, hy, he⟩ := grow1_mem (M := M) x L b
      obtain ⟨T, hT⟩ := growF_app M x k (b + 1) (grow1 M x L b)
      exact ⟨y, by rw [hT]; exact List.mem_append_left _ hy, he⟩
    · exact ih (b + 1) _ j h (by omega)
theorem bfsF_closed {M : List (List Nat)} {s : Nat} (hM : OkM M) : ∀ (f i : Nat) (L : List Ent), Good M s L → 513 ≤ f + i → (∀ (j : Nat) (x : Ent) (b : Nat), L[j]? = some x → j < i → b < M.length → ∃ y ∈ L, y.set = press M x.set b) →
    ∀ x ∈ bfsF M f i L, ∀ b, b < M.length → ∃ y ∈ bfsF M f i L, y.set = press M x.set b := by
  intro f
  induction f with
  | zero =>
    intro i L hg hi h x hx b hb
    obtain ⟨j, hj, rfl⟩ := List.getElem_of_mem hx
    have hj' : j < L.length := hj
    have hl := hg.len hM
    exact h j _ b (List.getElem?_eq_getElem hj) (by omega) hb
  | succ f ih =>
    intro i L hg hi h
    rw [YthlgdakdjikjhaaDoor.bfsF]
    cases hx : L[i]? with
    | none =>
      intro x hx' b hb
      obtain ⟨j, hj, rfl⟩ := List.getElem_of_mem hx'
      have hj' : j < L.length := hj
      have hil : L.length ≤ i := by
        rcases Nat.lt_or_ge i L.length with h1 | h1
        · rw [List.getElem?_eq_getElem h1] at hx; cases hx
        · exact h1
      exact h j _ b (List.getElem?_eq_getElem hj) (by omega) hb
    | some x0 =>
      refine ih (i + 1) _ (hg.growF hM M.length 0 L hx (by omega)) (by omega) fun j x b hj hji hb => ?_
      obtain ⟨T, hT⟩ := growF_app M x0 M.length 0 L
      have hil := (List.getElem?_eq_some_iff.1 hx).1
      rcases Nat.lt_or_ge j i with h1 | h1
      · have hj2 : L[j]? = some x := by rw [hT, List.getElem?_append_left (by omega)] at hj; exact hj
        obtain ⟨y, hy, he⟩ := h j x b hj2 h1 hb
        exact ⟨y, by rw [hT]; exact List.mem_append_left _ hy, he⟩
      · have hji2 : j = i := by omega
        subst hji2
        have : x = x0 := by
          rw [hT, app_at hx] at hj
          exact (Option.some.inj hj).symm
        subst this
        exact growF_mem x M.length 0 L b (by omega) (by omega)
theorem reach_press {M : List (List Nat)} (hM : OkM M) {s : Nat} (hs : s < 2 ^ nst M) : ∀ x ∈ reach M s, ∀ b, b < M.length → ∃ y ∈ reach M s, y.set = press M x.set b :=
  bfsF_closed hM 513 0 _ (Good.start M s hs) (by omega) fun j x b _ hj _ => by omega
theorem reach_img {M : List (List Nat)} (hM : OkM M) {s : Nat} (hs : s < 2 ^ nst M) : ∀ (l : List UInt8), l.all (letB M.length) = true → ∀ x ∈ reach M s, ∃ y ∈ reach M s, y.set = imgW M x.set l := by
  intro l
  induction l with
  | nil => intro _ x hx; exact ⟨x, hx, rfl⟩
  | cons c l ih =>
    intro hl x hx
    rw [List.all_cons, Bool.and_eq_true] at hl
    have hc := (letB_iff _ _).1 hl.1
    obtain ⟨y, hy, he⟩ := reach_press hM hs x hx (c.toNat - 97) (by omega)
    obtain ⟨z, hz, hz2⟩ := ih hl.2 y hy
    exact ⟨z, hz, by rw [hz2, he]; rfl⟩
theorem reach_all {M : List (List Nat)} (hM : OkM M) {s : Nat} (hs : s < 2 ^ nst M) (l : List UInt8) (hl : l.all (letB M.length) = true) : ∃ y ∈ reach M s, y.set = imgW M s l := by
  have hh := (reach_good hM hs).head
  obtain ⟨y, hy, he⟩ := reach_img hM hs l hl ⟨s, [], 0, 0⟩ (List.mem_of_getElem? hh)
  exact ⟨y, hy, he⟩
end Go.Proofs.YthlgdakdjikjhaaDoor
/-
  Lists that are sets of states: plain definitions. No program.
-/
namespace Go.Proofs.YthlgdakdjikjhaaDoor

/-- May a number stand behind another one in a set of states below n? -/
def okQ (n : Nat) (p : Option Int) (q : Int) : Bool := decide (0 ≤ q) && decide (q < (n : Int)) && (match p with | none => true | some p => decide (p < q))
def setF (n : Nat) : Option Int → List Int → Bool
  | _, [] => true
  | p, q :: r => okQ n p q && setF n (some q) r
/-- A list is a set of states below n. -/
def setB (n : Nat) (l : List Int) : Bool := setF n none l
/-- The set's number. -/
def numF : List Int → Nat → Nat
  | [], s => s
  | q :: r, s => numF r (s + 2 ^ q.toNat)
def numL (l : List Int) : Nat := numF l 0
/-- What stands ahead of number i. -/
def prevA (l : List Int) : Nat → Option Int
  | 0 => none
  | i + 1 => l[i]?
/-- What is known of the sum of the first i. -/
structure SetTo (n : Nat) (l : List Int) (i s : Nat) : Prop where
  le : i ≤ l.length
  set : setB n l = setF n (prevA l i) (l.drop i)
  num : numL l = numF (l.drop i) s
  lt : s < 2 ^ n
  zero : i = 0 → s = 0
  prev : ∀ p, prevA l i = some p → 0 ≤ p ∧ s < 2 ^ (p.toNat + 1) ∧ 0 < s
theorem SetTo.start (n : Nat) (l : List Int) : SetTo n l 0 0 := ⟨Nat.zero_le _, rfl, rfl, Nat.two_pow_pos n, fun _ => rfl, fun p h => by cases h⟩
theorem okQ_iff (n : Nat) (p : Option Int) (q : Int) : okQ n p q = true ↔ 0 ≤ q ∧ q < (n : Int) ∧ ∀ x, p = some x → x < q := by
  unfold okQ
  cases p with
  | none => simp
  | some p => simp [and_assoc]
theorem SetTo.below {n i s : Nat} {l : List Int} {q : Int} (h : SetTo n l i s) (hq : okQ n (prevA l i) q = true) : s < 2 ^ q.toNat := by
  obtain ⟨h1, h2, h3⟩ := (okQ_iff _ _ _).1 hq
  cases i with
  | zero => rw [h.zero rfl]; exact Nat.two_pow_pos _
  | succ i =>
    have hl := h.le
    have hp : prevA l (i + 1) = some l[i] := List.getElem?_eq_getElem (by omega)
    obtain ⟨h4, h5, -⟩ := h.prev _ hp
    have h6 := h3 _ hp
    exact Nat.lt_of_lt_of_le h5 (Nat.pow_le_pow_right (by omega) (by omega))
theorem or_add {s k : Nat} (h : s < 2 ^ k) : s ||| 2 ^ k = s + 2 ^ k := by
  have := Nat.two_pow_add_eq_or_of_lt h 1
  rw [Nat.mul_one, Nat.or_comm, Nat.add_comm] at this
  exact this.symm
theorem add_lt {s n k : Nat} (h : s < 2 ^ k) (hk : k < n) : s + 2 ^ k < 2 ^ n := by
  have h1 : 2 ^ (k + 1) ≤ 2 ^ n := Nat.pow_le_pow_right (by omega) hk
  rw [Nat.pow_succ] at h1
  omega
theorem SetTo.step {n i s : Nat} {l : List Int} {q : Int} (h : SetTo n l i s) (hx : l[i]? = some q) (hd : l.drop i = q :: l.drop (i + 1)) (hq : okQ n (prevA l i) q = true) : SetTo n l (i + 1) (s + 2 ^ q.toNat) := by
  obtain ⟨h1, h2, h3⟩ := (okQ_iff _ _ _).1 hq
  have hb := h.below hq
  have hl := (List.getElem?_eq_some_iff.1 hx).1
  refine ⟨hl, ?_, ?_, add_lt hb (by omega), fun h0 => by omega, fun p hp => ?_⟩
  · rw [h.set, hd, setF, hq, Bool.true_and]
    show _ = setF n (l[i]?) _
    rw [hx]
  · rw [h.num, hd]; rfl
  · have hp' : l[i]? = some p := hp
    rw [hx] at hp'
    cases hp'
    have := Nat.two_pow_pos q.toNat
    exact ⟨h1, by rw [Nat.pow_succ]; omega, by omega⟩
theorem SetTo.bad {n i s : Nat} {l : List Int} {q : Int} (h : SetTo n l i s) (hd : l.drop i = q :: l.drop (i + 1)) (hq : okQ n (prevA l i) q = false) : setB n l = false := by
  rw [h.set, hd, setF, hq]; rfl
theorem SetTo.done {n i s : Nat} {l : List Int} (h : SetTo n l i s) (hi : l.length ≤ i) : setB n l = true ∧ numL l = s ∧ (l ≠ [] → s ≠ 0) := by
  have hd := List.drop_eq_nil_of_le hi
  refine ⟨by rw [h.set, hd]; rfl, by rw [h.num, hd]; rfl, fun hne => ?_⟩
  have hle := h.le
  cases i with
  | zero => exact absurd (List.eq_nil_of_length_eq_zero (by omega)) hne
  | succ i =>
    have := (h.prev _ (List.getElem?_eq_getElem (show i < l.length by omega))).2.2
    omega
theorem setTo_of {n : Nat} {l : List Int} (h : setB n l = true) : ∀ k, k ≤ l.length → ∃ s, SetTo n l k s := by
  intro k
  induction k with
  | zero => intro _; exact ⟨0, SetTo.start n l⟩
  | succ k ih =>
    intro hk
    obtain ⟨s, hs⟩ := ih (by omega)
    have hd : l.drop k = l[k] :: l.drop (k + 1) := List.drop_eq_getElem_cons (by omega)
    cases hq : okQ n (prevA l k) l[k] with
    | true => exact ⟨_, hs.step (List.getElem?_eq_getElem (by omega)) hd hq⟩
    | false => rw [hs.bad hd hq] at h; cases h
/-- A set's number. -/
theorem num_lt {n : Nat} {l : List Int} (h : setB n l = true) : numL l < 2 ^ n ∧ (l ≠ [] → numL l ≠ 0) := by
  obtain ⟨s, hs⟩ := setTo_of h l.length (Nat.le_refl _)
  obtain ⟨-, h2, h3⟩ := hs.done (Nat.le_refl _)
  exact ⟨by rw [h2]; exact hs.lt, fun hne => by rw [h2]; exact h3 hne⟩
end Go.Proofs.YthlgdakdjikjhaaDoor
/-
  Whole numbers: more rows than columns have a relation; a bound for skew pairs of sets. No program.
-/
namespace Go.Proofs.YthlgdakdjikjhaaDoor

/-- A sum over a list. -/
def lsum {ι : Type} : List ι → (ι → Int) → Int
  | [], _ => 0
  | i :: l, f => f i + lsum l f
theorem lsum_comb {ι : Type} (x y : Int) (f g : ι → Int) : ∀ l : List ι, lsum l (fun i => x * f i + y * g i) = x * lsum l f + y * lsum l g := by
  intro l
  induction l with
  | nil => simp [lsum]
  | cons i l ih => simp only [lsum, ih, Int.mul_add]; omega
theorem lsum_congr {ι : Type} {f g : ι → Int} : ∀ {l : List ι}, (∀ i ∈ l, f i = g i) → lsum l f = lsum l g := by
  intro l
  induction l with
  | nil => intro _; rfl
  | cons i l ih =>
    intro h
    rw [lsum, lsum, h i (List.mem_cons_self ..), ih fun j hj => h j (List.mem_cons_of_mem _ hj)]
theorem lsum_zero {ι : Type} {f : ι → Int} {l : List ι} (h : ∀ i ∈ l, f i = 0) : lsum l f = 0 := by
  induction l with
  | nil => rfl
  | cons i l ih => rw [lsum, h i (List.mem_cons_self ..), ih fun j hj => h j (List.mem_cons_of_mem _ hj)]; rfl
theorem lsum_mul {ι : Type} (x : Int) (f : ι → Int) (l : List ι) : lsum l (fun i => x * f i) = x * lsum l f := by
  have := lsum_comb x 0 f f l
  rw [Int.zero_mul, Int.add_zero] at this
  rw [← this]
  exact lsum_congr fun i _ => by omega
theorem lsum_add {ι : Type} (f g : ι → Int) (l : List ι) : lsum l (fun i => f i + g i) = lsum l f + lsum l g := by
  have := lsum_comb 1 1 f g l
  rw [Int.one_mul, Int.one_mul] at this
  rw [← this]
  exact lsum_congr fun i _ => by omega
theorem lsum_swap {ι κ : Type} (f : ι → κ → Int) (k : List κ) : ∀ l : List ι, lsum l (fun i => lsum k (f i)) = lsum k (fun a => lsum l fun i => f i a) := by
  intro l
  induction l with
  | nil => rw [lsum]; exact (lsum_zero fun a _ => rfl).symm
  | cons i l ih =>
    rw [lsum, ih, ← lsum_add]
    exact lsum_congr fun a _ => rfl
theorem lsum_append {ι : Type} (f : ι → Int) : ∀ l k : List ι, lsum (l ++ k) f = lsum l f + lsum k f := by
  intro l k
  induction l with
  | nil => simp [lsum]
  | cons i l ih => rw [List.cons_append, lsum, lsum, ih]; omega
theorem lsum_map {ι κ : Type} (g : κ → ι) (f : ι → Int) : ∀ l : List κ, lsum (l.map g) f = lsum l fun a => f (g a) := by
  intro l
  induction l with
  | nil => rfl
  | cons i l ih => rw [List.map_cons, lsum, lsum, ih]
theorem lsum_erase {f : Nat → Int} {p : Nat} : ∀ {l : List Nat}, p ∈ l → lsum l f = f p + lsum (l.erase p) f := by
  intro l
  induction l with
  | nil => intro h; cases h
  | cons i l ih =>
    intro h
    by_cases he : i = p
    · subst he; rw [List.erase_cons_head, lsum]
    · have hp : p ∈ l := by
        rcases List.mem_cons.1 h with h | h
        · exact absurd h.symm he
        · exact h
      rw [List.erase_cons_tail (by simpa using he), lsum, lsum, ih hp]; omega

/-- More rows than columns have a relation. -/
theorem relation {κ : Type} : ∀ (cols : List κ) (F : Nat → κ → Int) (rows : List Nat), rows.Nodup → cols.length < rows.length → ∃ c : Nat → Int, (∃ i ∈ rows, c i ≠ 0) ∧ ∀ a ∈ cols, lsum rows (fun i => c i * F i a) = 0 := by
  intro cols
  induction cols with
  | nil =>
    intro F rows _ h
    cases rows with
    | nil => simp at h
    | cons i r => exact ⟨fun _ => 1, ⟨i, List.mem_cons_self .., (by decide : (1 : Int) ≠ 0)⟩, fun a ha => by cases ha⟩
  | cons k cols ih =>
    intro F rows hn h
    rw [List.length_cons] at h
    by_cases hz : ∀ i ∈ rows, F i k = 0
    · obtain ⟨c, h1, h2⟩ := ih F rows hn (by omega)
      refine ⟨c, h1, fun a ha => ?_⟩
      rcases List.mem_cons.1 ha with rfl | ha
      · exact lsum_zero fun i hi => by rw [hz i hi, Int.mul_zero]
      · exact h2 a ha
    · have : ∃ p ∈ rows, F p k ≠ 0 := by
        refine Classical.byContradiction fun hc => hz fun i hi => ?_
        exact Classical.byContradiction fun hh => hc ⟨i, hi, hh⟩
      obtain ⟨p, hp, hpk⟩ := this
      have hne : ∀ i ∈ rows.erase p, i ≠ p := fun i hi => (hn.mem_erase_iff.1 hi).1
      obtain ⟨c, ⟨i0, hi0, hc0⟩, h2⟩ := ih (fun i a => F p k * F i a - F i k * F p a) (rows.erase p) (hn.erase p) (by rw [List.length_erase_of_mem hp]; have := List.length_pos_of_mem hp; omega)
      have hi0' := List.mem_of_mem_erase hi0
      refine ⟨fun i => if i = p then - lsum (rows.erase p) (fun j => c j * F j k) else c i * F p k, ⟨i0, hi0', ?_⟩, fun a ha => ?_⟩
      · show (if i0 = p then _ else _) ≠ 0
        rw [if_neg (hne i0 hi0)]
        exact Int.mul_ne_zero hc0 hpk
      · have e1 : lsum (rows.erase p) (fun i => (if i = p then - lsum (rows.erase p) (fun j => c j * F j k) else c i * F p k) * F i a) = F p k * lsum (rows.erase p) (fun i => c i * F i a) := by
          rw [← lsum_mul]
          refine lsum_congr fun i hi => ?_
          rw [if_neg (hne i hi), Int.mul_right_comm, Int.mul_comm]
        rw [lsum_erase hp, e1]
        show (if p = p then - lsum (rows.erase p) (fun j => c j * F j k) else c p * F p k) * F p a + _ = 0
        rw [if_pos rfl]
        rcases List.mem_cons.1 ha with rfl | ha
        · rw [Int.neg_mul, Int.mul_comm (F p a)]; omega
        · have := h2 a ha
          have e2 : lsum (rows.erase p) (fun i => c i * (F p k * F i a - F i k * F p a)) = F p k * lsum (rows.erase p) (fun i => c i * F i a) + (- F p a) * lsum (rows.erase p) (fun j => c j * F j k) := by
            rw [← lsum_comb]
            refine lsum_congr fun i _ => ?_
            rw [Int.mul_sub, Int.neg_mul, ← Int.mul_assoc, Int.mul_comm (c i) (F p k), Int.mul_assoc, ← Int.mul_assoc (c i), Int.mul_comm (c i * F i k)]
            omega
          rw [e2] at this
          rw [Int.neg_mul, Int.mul_comm (lsum _ _) (F p a)]
          rw [Int.neg_mul] at this
          omega
/-- A list of numbers has a last one that is not nought. -/
theorem last_ne (c : Nat → Int) : ∀ m : Nat, (∃ i, i < m ∧ c i ≠ 0) → ∃ i, i < m ∧ c i ≠ 0 ∧ ∀ j, i < j → j < m → c j = 0 := by
  intro m
  induction m with
  | zero => rintro ⟨i, hi, _⟩; omega
  | succ m ih =>
    rintro ⟨i, hi, hc⟩
    by_cases h : c m = 0
    · obtain ⟨i', h1, h2, h3⟩ := ih ⟨i, by
        rcases Nat.lt_or_ge i m with h1 | h1
        · exact h1
        · have : i = m := by omega
          subst this; exact absurd h hc, hc⟩
      refine ⟨i', by omega, h2, fun j hj hm => ?_⟩
      rcases Nat.lt_or_ge j m with h4 | h4
      · exact h3 j hj h4
      · have : j = m := by omega
        subst this; exact h
    · exact ⟨m, by omega, h, fun j h1 h2 => by omega⟩
theorem lsum_one {m i0 : Nat} {f : Nat → Int} (hi : i0 < m) (h : ∀ i, i < m → i ≠ i0 → f i = 0) : lsum (List.range m) f = f i0 := by
  rw [lsum_erase (List.mem_range.2 hi)]
  rw [lsum_zero fun i hi' => ?_]
  · omega
  · have := List.nodup_range.mem_erase_iff.1 hi'
    exact h i (List.mem_range.1 this.2) this.1
/-- A skew system is no larger than the number of columns. -/
theorem skew {κ : Type} (cols : List κ) (m : Nat) (F G : Nat → κ → Int) (hz : ∀ i j, i < j → j < m → lsum cols (fun a => F i a * G j a) = 0) (hn : ∀ i, i < m → lsum cols (fun a => F i a * G i a) ≠ 0) : m ≤ cols.length := by
  rcases Nat.lt_or_ge cols.length m with h | h
  · exfalso
    obtain ⟨c, ⟨i, hi, hc⟩, h2⟩ := relation cols F (List.range m) List.nodup_range (by rw [List.length_range]; exact h)
    obtain ⟨i0, h3, h4, h5⟩ := last_ne c m ⟨i, List.mem_range.1 hi, hc⟩
    have e1 : lsum (List.range m) (fun i => c i * lsum cols (fun a => F i a * G i0 a)) = 0 := by
      have : lsum (List.range m) (fun i => c i * lsum cols (fun a => F i a * G i0 a)) = lsum (List.range m) (fun i => lsum cols fun a => c i * (F i a * G i0 a)) := lsum_congr fun i _ => (lsum_mul _ _ _).symm
      rw [this, lsum_swap]
      refine lsum_zero fun a ha => ?_
      have h6 := h2 a ha
      have : lsum (List.range m) (fun i => c i * (F i a * G i0 a)) = G i0 a * lsum (List.range m) (fun i => c i * F i a) := by
        rw [← lsum_mul]
        exact lsum_congr fun i _ => by rw [← Int.mul_assoc, Int.mul_comm]
      rw [this, h6, Int.mul_zero]
    rw [lsum_one h3 fun i hi hne => ?_] at e1
    · rcases Int.mul_eq_zero.1 e1 with h6 | h6
      · exact h4 h6
      · exact hn i0 h3 h6
    · rcases Nat.lt_or_ge i i0 with h6 | h6
      · rw [hz i i0 h6 h3, Int.mul_zero]
      · rw [h5 i (by omega) hi, Int.zero_mul]
  · exact h

/-- The coefficients of the product of (u - a). -/
def coef : List Nat → Nat → Int
  | [], k => if k = 0 then 1 else 0
  | a :: r, k => (if k = 0 then 0 else coef r (k - 1)) - (a : Int) * coef r k
/-- The product of (u - a). -/
def prodA : List Nat → Int → Int
  | [], _ => 1
  | a :: r, u => (u - (a : Int)) * prodA r u
theorem coef_high : ∀ (l : List Nat) (k : Nat), l.length < k → coef l k = 0 := by
  intro l
  induction l with
  | nil => intro k h; simp at h; rw [coef, if_neg (by omega)]
  | cons a r ih =>
    intro k h
    rw [List.length_cons] at h
    rw [coef, if_neg (by omega), ih _ (by omega), ih _ (by omega), Int.mul_zero]; rfl
/-- A polynomial's value. -/
def polyV (e : Nat → Int) (t : Nat) (u : Int) : Int := lsum (List.range t) fun k => e k * u ^ k
theorem polyV_succ (e : Nat → Int) (t : Nat) (u : Int) : polyV e (t + 1) u = polyV e t u + e t * u ^ t := by
  unfold polyV
  rw [List.range_succ, lsum_append]
  simp [lsum]
theorem polyV_comb (x y : Int) (e f : Nat → Int) (t : Nat) (u : Int) : polyV (fun k => x * e k + y * f k) t u = x * polyV e t u + y * polyV f t u := by
  unfold polyV
  rw [← lsum_comb]
  exact lsum_congr fun k _ => by rw [Int.add_mul, Int.mul_assoc, Int.mul_assoc]
theorem polyV_congr {e f : Nat → Int} {t : Nat} {u : Int} (h : ∀ k, e k = f k) : polyV e t u = polyV f t u := by
  unfold polyV
  exact lsum_congr fun k _ => by rw [h]
theorem polyV_shift (e : Nat → Int) (u : Int) : ∀ t : Nat, polyV (fun k => if k = 0 then 0 else e (k - 1)) (t + 1) u = u * polyV e t u := by
  intro t
  induction t with
  | zero => simp [polyV, lsum]
  | succ t ih =>
    rw [polyV_succ, ih, polyV_succ e t, if_neg (by omega), Nat.add_sub_cancel, Int.mul_add, Int.pow_succ]
    congr 1
    rw [← Int.mul_assoc, Int.mul_comm]
theorem polyV_coef : ∀ (l : List Nat) (u : Int), polyV (coef l) (l.length + 1) u = prodA l u := by
  intro l u
  induction l with
  | nil => simp [polyV, lsum, coef, prodA]
  | cons a r ih =>
    have h1 : polyV (coef (a :: r)) (r.length + 1 + 1) u = polyV (fun k => 1 * (if k = 0 then 0 else coef r (k - 1)) + (- (a : Int)) * coef r k) (r.length + 1 + 1) u := polyV_congr fun k => by rw [coef, Int.one_mul, Int.neg_mul]; omega
    rw [List.length_cons, h1, polyV_comb, polyV_shift, polyV_succ (coef r) (r.length + 1), ih, coef_high r _ (by omega), prodA, Int.sub_mul, Int.neg_mul]
    rw [Int.zero_mul, Int.add_zero, Int.one_mul]; omega
/-- Pairs of exponents. -/
def pairsT : Nat → List (Nat × Nat)
  | 0 => []
  | t + 1 => pairsT t ++ (List.range (t + 1)).map fun a => (a, t)
theorem pairsT_len : ∀ t, 2 * (pairsT t).length = t * (t + 1) := by
  intro t
  induction t with
  | zero => rfl
  | succ t ih =>
    rw [pairsT, List.length_append, List.length_map, List.length_range, Nat.mul_add, ih]
    rw [Nat.mul_add (t + 1), Nat.mul_add t, Nat.add_mul t 1 (t + 1), Nat.mul_add t t 1]; omega
def symV (u v : Int) (p : Nat × Nat) : Int := if p.1 = p.2 then u ^ p.1 * v ^ p.2 else u ^ p.1 * v ^ p.2 + u ^ p.2 * v ^ p.1
theorem poly_sym (e : Nat → Int) (u v : Int) : ∀ t : Nat, polyV e t u * polyV e t v = lsum (pairsT t) fun p => (e p.1 * e p.2) * symV u v p := by
  intro t
  induction t with
  | zero => simp [polyV, pairsT, lsum]
  | succ t ih =>
    have h1 : lsum (List.range t) (fun a => (e a * e t) * symV u v (a, t)) = e t * v ^ t * polyV e t u + e t * u ^ t * polyV e t v := by
      unfold polyV
      rw [← lsum_comb]
      refine lsum_congr fun a ha => ?_
      have ha := List.mem_range.1 ha
      unfold symV
      rw [if_neg (by show ¬ a = t; omega)]
      show e a * e t * (u ^ a * v ^ t + u ^ t * v ^ a) = e t * v ^ t * (e a * u ^ a) + e t * u ^ t * (e a * v ^ a)
      rw [Int.mul_add]
      congr 1 <;> simp only [Int.mul_assoc, Int.mul_left_comm, Int.mul_comm]
    rw [polyV_succ, polyV_succ, pairsT, lsum_append, lsum_map, ← ih, List.range_succ, lsum_append, h1]
    simp only [lsum, symV, if_true]
    rw [Int.mul_add, Int.add_mul, Int.add_mul]
    have e1 : e t * u ^ t * (e t * v ^ t) = e t * e t * (u ^ t * v ^ t) := by simp only [Int.mul_assoc, Int.mul_left_comm]
    have e2 : polyV e t u * (e t * v ^ t) = e t * v ^ t * polyV e t u := Int.mul_comm _ _
    rw [e1, e2]
    omega
theorem prodA_zero (l : List Nat) (u : Nat) : prodA l (u : Int) = 0 ↔ u ∈ l := by
  induction l with
  | nil => simp [prodA]
  | cons a r ih =>
    rw [prodA, Int.mul_eq_zero, ih, List.mem_cons]
    constructor
    · rintro (h | h)
      · exact .inl (by omega)
      · exact .inr h
    · rintro (h | h)
      · exact .inl (by omega)
      · exact .inr h
/-- Pairs (p, q) and sets of t numbers: a set meets all later pairs and not its own. -/
theorem skew_pairs (t m : Nat) (D : Nat → List Nat) (p q : Nat → Nat) (hl : ∀ i, i < m → (D i).length = t) (hz : ∀ i j, i < j → j < m → p j ∈ D i ∨ q j ∈ D i) (hn : ∀ i, i < m → p i ∉ D i ∧ q i ∉ D i) : 2 * m ≤ (t + 1) * (t + 2) := by
  have key : ∀ i j, i < m → lsum (pairsT (t + 1)) (fun a => (coef (D i) a.1 * coef (D i) a.2) * symV (p j) (q j) a) = prodA (D i) (p j) * prodA (D i) (q j) := by
    intro i j hi
    rw [← poly_sym, ← hl i hi, polyV_coef, polyV_coef]
  have := skew (pairsT (t + 1)) m (fun i a => coef (D i) a.1 * coef (D i) a.2) (fun j a => symV (p j) (q j) a) (fun i j hij hj => by
    rw [key i j (by omega), Int.mul_eq_zero, prodA_zero, prodA_zero]
    exact hz i j hij hj) (fun i hi => by
    rw [key i i hi]
    intro h
    rcases Int.mul_eq_zero.1 h with h | h
    · exact (hn i hi).1 ((prodA_zero _ _).1 h)
    · exact (hn i hi).2 ((prodA_zero _ _).1 h))
  have h2 := pairsT_len (t + 1)
  rw [show t + 2 = t + 1 + 1 from rfl]
  omega
end Go.Proofs.YthlgdakdjikjhaaDoor
