/-
  Contracts of the package clock, turned from the texts of the laws of clock (sets of states, searches).
-/
import Derived.Test.YtkmpdcckgibkhaaGreatTa
namespace Go.Proofs.YtkmpdcckgibkhaaGreat.Ck

/-- Lists of numbers are a machine. -/
def machineB (X : List (List Int)) : Bool :=
  decide (1 ≤ X.length) && decide (X.length ≤ 4) && decide (1 ≤ (X.headD []).length) && decide ((X.headD []).length ≤ 9) &&
  X.all fun r => r.length == (X.headD []).length && r.all fun q => decide (0 ≤ q) && decide (q < ((X.headD []).length : Int))
/-- How many states a machine has. -/
def nst (M : List (List Nat)) : Nat := (M.headD []).length
structure OkM (M : List (List Nat)) : Prop where
  b1 : 1 ≤ M.length
  b4 : M.length ≤ 4
  n1 : 1 ≤ nst M
  n9 : nst M ≤ 9
  row : ∀ r ∈ M, r.length = nst M
  lt : ∀ r ∈ M, ∀ q ∈ r, q < nst M
/-- The numbers of a machine, as the program has them. -/
def intM (M : List (List Nat)) : List (List Int) := M.map (·.map fun (x : Nat) => (x : Int))
theorem intM_length (M : List (List Nat)) : (intM M).length = M.length := by simp [intM]
theorem intM_head (M : List (List Nat)) : ((intM M).headD []).length = nst M := by
  cases M <;> simp [intM, nst]
theorem ok_machine (M : List (List Nat)) (h : OkM M) : machineB (intM M) = true := by
  simp only [machineB, Bool.and_eq_true, decide_eq_true_eq, List.all_eq_true, beq_iff_eq, intM_length, intM_head]
  refine ⟨⟨⟨⟨h.b1, h.b4⟩, h.n1⟩, h.n9⟩, fun r hr => ?_⟩
  obtain ⟨s, hs, rfl⟩ := List.mem_map.1 hr
  refine ⟨by rw [List.length_map]; exact h.row s hs, fun q hq => ?_⟩
  obtain ⟨p, hp, rfl⟩ := List.mem_map.1 hq
  have := h.lt s hs p hp
  omega
/-- The image of a set under a row of states, from state q on. -/
def prF (s : Nat) : List Nat → Nat → Nat → Nat
  | [], _, out => out
  | p :: r, q, out => prF s r (q + 1) (if s.testBit q then out ||| 2 ^ p else out)
def press (M : List (List Nat)) (s b : Nat) : Nat := prF s (M.getD b []) 0 0
theorem prF_lt (s n : Nat) : ∀ (r : List Nat) (q out : Nat), out < 2 ^ n → (∀ p ∈ r, p < n) → prF s r q out < 2 ^ n := by
  intro r
  induction r with
  | nil => intro q out h _; exact h
  | cons p r ih =>
    intro q out h hr
    rw [prF]
    refine ih _ _ ?_ fun x hx => hr x (List.mem_cons_of_mem _ hx)
    split
    · exact Nat.or_lt_two_pow h (Nat.pow_lt_pow_right (by omega) (hr p (List.mem_cons_self ..)))
    · exact h
theorem getD_mem {M : List (List Nat)} {b : Nat} (hb : b < M.length) : M.getD b [] ∈ M := by
  rw [List.getD, List.getElem?_eq_getElem hb]; exact List.getElem_mem hb
theorem press_lt {M : List (List Nat)} (h : OkM M) (s b : Nat) : press M s b < 2 ^ nst M := by
  rcases Nat.lt_or_ge b M.length with hb | hb
  · exact prF_lt s _ _ _ _ (Nat.two_pow_pos _) (h.lt _ (getD_mem hb))
  · unfold press; rw [List.getD, List.getElem?_eq_none hb]; exact Nat.two_pow_pos _
/-- The states of a set. -/
def listN (s : Nat) : List Nat := (List.range 9).filter s.testBit
def sizeN (s : Nat) : Nat := (listN s).length
/-- A set that was reached, the word that leads to it, and the step before. -/
structure Ent where
  set : Nat
  word : List UInt8
  frm : Nat
  btn : Nat
/-- A button tried from an entry. -/
def grow1 (M : List (List Nat)) (x : Ent) (L : List Ent) (b : Nat) : List Ent :=
  if L.any (fun e => e.set == press M x.set b) then L else L ++ [⟨press M x.set b, x.word ++ [UInt8.ofNat (97 + b)], x.set, 97 + b⟩]
/-- The buttons from b on, tried. -/
def growF (M : List (List Nat)) (x : Ent) : Nat → Nat → List Ent → List Ent
  | 0, _, L => L
  | k + 1, b, L => growF M x k (b + 1) (grow1 M x L b)
def bfsF (M : List (List Nat)) : Nat → Nat → List Ent → List Ent
  | 0, _, L => L
  | f + 1, i, L => match L[i]? with
    | none => L
    | some x => bfsF M f (i + 1) (growF M x M.length 0 L)
/-- All images of a set in the order of the words. -/
def reach (M : List (List Nat)) (s : Nat) : List Ent := bfsF M 513 0 [⟨s, [], 0, 0⟩]
theorem nodup_len : ∀ (k : Nat) (l : List Nat), l.Nodup → (∀ x ∈ l, x < k) → l.length ≤ k := by
  intro k
  induction k with
  | zero =>
    intro l _ h
    cases l with
    | nil => exact Nat.le_refl _
    | cons a l => exact absurd (h a (List.mem_cons_self ..)) (by omega)
  | succ k ih =>
    intro l hn h
    have h1 := ih (l.erase k) (hn.erase k) fun x hx => by
      have h2 := (hn.mem_erase_iff).1 hx
      have := h x h2.2
      have := h2.1
      omega
    rw [List.length_erase] at h1
    split at h1 <;> omega
/-- What the list of reached sets is like. -/
structure Good (M : List (List Nat)) (s : Nat) (L : List Ent) : Prop where
  head : L[0]? = some ⟨s, [], 0, 0⟩
  nodup : (L.map (·.set)).Nodup
  lt : ∀ e ∈ L, e.set < 2 ^ nst M
  par : ∀ (i : Nat) (e : Ent), L[i]? = some e → 1 ≤ i → ∃ (j : Nat) (p : Ent), j < i ∧ L[j]? = some p ∧ e.frm = p.set ∧ e.word = p.word ++ [UInt8.ofNat e.btn] ∧ 97 ≤ e.btn ∧ e.btn < 97 + M.length ∧ e.set = press M p.set (e.btn - 97)
theorem Good.start (M : List (List Nat)) (s : Nat) (hs : s < 2 ^ nst M) : Good M s [⟨s, [], 0, 0⟩] where
  head := rfl
  nodup := by simp
  lt := by simpa using hs
  par := fun i e h hi => by
    cases i with
    | zero => omega
    | succ i => simp at h
theorem Good.len {M : List (List Nat)} {s : Nat} {L : List Ent} (h : Good M s L) (hM : OkM M) : L.length ≤ 512 := by
  have h1 := nodup_len (2 ^ nst M) (L.map (·.set)) h.nodup fun x hx => by
    obtain ⟨e, he, rfl⟩ := List.mem_map.1 hx
    exact h.lt e he
  rw [List.length_map] at h1
  have h2 : 2 ^ nst M ≤ 2 ^ 9 := Nat.pow_le_pow_right (by omega) hM.n9
  have h3 : (2 : Nat) ^ 9 = 512 := rfl
  omega
theorem Good.pos {M : List (List Nat)} {s : Nat} {L : List Ent} (h : Good M s L) : 0 < L.length := by
  have := h.head
  cases L with
  | nil => simp at this
  | cons => simp
theorem any_set (L : List Ent) (y : Nat) : L.any (fun e => e.set == y) = true ↔ y ∈ L.map (·.set) := by
  simp only [List.any_eq_true, beq_iff_eq, List.mem_map]
theorem Good.grow1 {M : List (List Nat)} {s : Nat} {L : List Ent} (h : Good M s L) (hM : OkM M) {j b : Nat} {x : Ent} (hj : L[j]? = some x) (hb : b < M.length) : Good M s (grow1 M x L b) := by
  have hjl : j < L.length := (List.getElem?_eq_some_iff.1 hj).1
  unfold Ck.grow1
  cases ha : L.any (fun e => e.set == press M x.set b) with
  | true => simpa using h
  | false =>
    simp only [Bool.false_eq_true, if_false]
    have hnew : press M x.set b ∉ L.map (·.set) := fun hm => by rw [(any_set L _).2 hm] at ha; cases ha
    refine ⟨?_, ?_, ?_, ?_⟩
    · rw [List.getElem?_append_left h.pos]; exact h.head
    · rw [List.map_append, List.nodup_append]
      refine ⟨h.nodup, by simp, fun a ha b hb => ?_⟩
      simp only [List.map_cons, List.map_nil, List.mem_singleton] at hb
      subst hb
      intro e; subst e; exact hnew ha
    · intro e he
      rcases List.mem_append.1 he with he | he
      · exact h.lt e he
      · simp only [List.mem_singleton] at he; subst he; exact press_lt hM _ _
    · intro i e hi h1
      rcases Nat.lt_or_ge i L.length with hl | hl
      · rw [List.getElem?_append_left hl] at hi
        obtain ⟨j, p, a1, a2, a3⟩ := h.par i e hi h1
        exact ⟨j, p, a1, by rw [List.getElem?_append_left (by omega)]; exact a2, a3⟩
      · rw [List.getElem?_append_right hl] at hi
        have h0 : i - L.length = 0 := by
          rcases Nat.eq_zero_or_pos (i - L.length) with h0 | h0
          · exact h0
          · rw [List.getElem?_eq_none (by simp; omega)] at hi; cases hi
        rw [h0] at hi
        simp only [List.getElem?_cons_zero, Option.some.injEq] at hi
        subst hi
        exact ⟨j, x, by omega, by rw [List.getElem?_append_left hjl]; exact hj, rfl, rfl, by simp, by simp; omega, by simp⟩
theorem grow1_app (M : List (List Nat)) (x : Ent) (L : List Ent) (b : Nat) : ∃ T, grow1 M x L b = L ++ T := by
  unfold grow1; split
  · exact ⟨[], by simp⟩
  · exact ⟨_, rfl⟩
theorem growF_app (M : List (List Nat)) (x : Ent) : ∀ (k b : Nat) (L : List Ent), ∃ T, growF M x k b L = L ++ T := by
  intro k
  induction k with
  | zero => intro b L; exact ⟨[], by simp [growF]⟩
  | succ k ih =>
    intro b L
    obtain ⟨T, hT⟩ := grow1_app M x L b
    obtain ⟨U, hU⟩ := ih (b + 1) (grow1 M x L b)
    exact ⟨T ++ U, by rw [growF, hU, hT, List.append_assoc]⟩
theorem app_at {L T : List Ent} {j : Nat} {x : Ent} (h : L[j]? = some x) : (L ++ T)[j]? = some x := by
  rw [List.getElem?_append_left (List.getElem?_eq_some_iff.1 h).1]; exact h
theorem Good.growF {M : List (List Nat)} {s : Nat} (hM : OkM M) {j : Nat} {x : Ent} : ∀ (k b : Nat) (L : List Ent), Good M s L → L[j]? = some x → b + k ≤ M.length → Good M s (growF M x k b L) := by
  intro k
  induction k with
  | zero => intro b L h _ _; exact h
  | succ k ih =>
    intro b L h hj hb
    obtain ⟨T, hT⟩ := grow1_app M x L b
    refine ih (b + 1) _ (h.grow1 hM hj (by omega)) ?_ (by omega)
    rw [hT]; exact app_at hj
theorem bfsF_app (M : List (List Nat)) : ∀ (f i : Nat) (L : List Ent), ∃ T, bfsF M f i L = L ++ T := by
  intro f
  induction f with
  | zero => intro i L; exact ⟨[], by simp [bfsF]⟩
  | succ f ih =>
    intro i L
    rw [bfsF]
    cases h : L[i]? with
    | none => exact ⟨[], by simp⟩
    | some x =>
      obtain ⟨T, hT⟩ := growF_app M x M.length 0 L
      obtain ⟨U, hU⟩ := ih (i + 1) (Ck.growF M x M.length 0 L)
      exact ⟨T ++ U, by simp only []; rw [hU, hT, List.append_assoc]⟩
theorem bfsF_step {M : List (List Nat)} {f i : Nat} {L : List Ent} {x : Ent} (h : L[i]? = some x) : bfsF M (f + 1) i L = bfsF M f (i + 1) (growF M x M.length 0 L) := by
  rw [bfsF, h]
theorem bfsF_end {M : List (List Nat)} {f i : Nat} {L : List Ent} (h : L.length ≤ i) : bfsF M f i L = L := by
  cases f with
  | zero => rfl
  | succ f => rw [bfsF, List.getElem?_eq_none h]
/-- A letter of a machine with k buttons. -/
def letB (k : Nat) (c : UInt8) : Bool := decide (97 ≤ c.toNat) && decide (c.toNat < 97 + k)
/-- The image of a set under a word. -/
def imgW (M : List (List Nat)) (s : Nat) (l : List UInt8) : Nat := l.foldl (fun t c => press M t (c.toNat - 97)) s
theorem imgW_app (M : List (List Nat)) (s : Nat) (a b : List UInt8) : imgW M s (a ++ b) = imgW M (imgW M s a) b := by simp [imgW, List.foldl_append]
theorem imgW_cons (M : List (List Nat)) (s : Nat) (c : UInt8) (l : List UInt8) : imgW M s (c :: l) = imgW M (press M s (c.toNat - 97)) l := rfl
theorem imgW_nil (M : List (List Nat)) (s : Nat) : imgW M s [] = s := rfl
/-- What was reached is an image under its word. -/
theorem Good.word {M : List (List Nat)} {s : Nat} {L : List Ent} (h : Good M s L) (h4 : M.length ≤ 4) : ∀ (i : Nat) (e : Ent), L[i]? = some e → e.word.all (letB M.length) = true ∧ imgW M s e.word = e.set := by
  intro i
  induction i using Nat.strongRecOn with
  | _ i ih =>
    intro e he
    rcases Nat.eq_zero_or_pos i with h0 | h0
    · subst h0
      have := h.head
      rw [he] at this
      cases this
      exact ⟨rfl, rfl⟩
    · obtain ⟨j, p, h1, h2, -, hw, hb1, hb2, hset⟩ := h.par i e he h0
      obtain ⟨k1, k2⟩ := ih j h1 p h2
      have hbt : (UInt8.ofNat e.btn).toNat = e.btn := by rw [UInt8.toNat_ofNat']; omega
      rw [hw]
      refine ⟨?_, ?_⟩
      · rw [List.all_append, k1]
        simp [letB, hbt, hb1, hb2]
      · rw [imgW_app, k2, hset, imgW_cons, imgW_nil, hbt]
end Go.Proofs.YtkmpdcckgibkhaaGreat.Ck
