/-
  Lists that are sets of states: plain definitions. No program.
-/
import Derived.Test.YthlgdakdjikjhaaDoorImg
namespace Go.Proofs.YthlgdakdjikjhaaDoor

/-- May a number stand behind another one in a set of states below n? -/
def okQ (n : Nat) (p : Option Int) (q : Int) : Bool := decide (0 ≤ q) && decide (q < (n : Int)) && (match p with | none => true | some p => decide (p < q))
def setF (n : Nat) : Option Int → List Int → Bool
  | _, [] => true
  | p, q :: r => okQ n p q && setF n (some q) r
/-- A list is a set of states below n. -/
def setB (n : Nat) (l : List Int) : Bool := setF n none l
/-- The set's number. -/
def numF : List Int → Nat → Nat
  | [], s => s
  | q :: r, s => numF r (s + 2 ^ q.toNat)
def numL (l : List Int) : Nat := numF l 0
/-- What stands ahead of number i. -/
def prevA (l : List Int) : Nat → Option Int
  | 0 => none
  | i + 1 => l[i]?
/-- What is known of the sum of the first i. -/
structure SetTo (n : Nat) (l : List Int) (i s : Nat) : Prop where
  le : i ≤ l.length
  set : setB n l = setF n (prevA l i) (l.drop i)
  num : numL l = numF (l.drop i) s
  lt : s < 2 ^ n
  zero : i = 0 → s = 0
  prev : ∀ p, prevA l i = some p → 0 ≤ p ∧ s < 2 ^ (p.toNat + 1) ∧ 0 < s
theorem SetTo.start (n : Nat) (l : List Int) : SetTo n l 0 0 := ⟨Nat.zero_le _, rfl, rfl, Nat.two_pow_pos n, fun _ => rfl, fun p h => by cases h⟩
theorem okQ_iff (n : Nat) (p : Option Int) (q : Int) : okQ n p q = true ↔ 0 ≤ q ∧ q < (n : Int) ∧ ∀ x, p = some x → x < q := by
  unfold okQ
  cases p with
  | none => simp
  | some p => simp [and_assoc]
theorem SetTo.below {n i s : Nat} {l : List Int} {q : Int} (h : SetTo n l i s) (hq : okQ n (prevA l i) q = true) : s < 2 ^ q.toNat := by
  obtain ⟨h1, h2, h3⟩ := (okQ_iff _ _ _).1 hq
  cases i with
  | zero => rw [h.zero rfl]; exact Nat.two_pow_pos _
  | succ i =>
    have hl := h.le
    have hp : prevA l (i + 1) = some l[i] := List.getElem?_eq_getElem (by omega)
    obtain ⟨h4, h5, -⟩ := h.prev _ hp
    have h6 := h3 _ hp
    exact Nat.lt_of_lt_of_le h5 (Nat.pow_le_pow_right (by omega) (by omega))
theorem or_add {s k : Nat} (h : s < 2 ^ k) : s ||| 2 ^ k = s + 2 ^ k := by
  have := Nat.two_pow_add_eq_or_of_lt h 1
  rw [Nat.mul_one, Nat.or_comm, Nat.add_comm] at this
  exact this.symm
theorem add_lt {s n k : Nat} (h : s < 2 ^ k) (hk : k < n) : s + 2 ^ k < 2 ^ n := by
  have h1 : 2 ^ (k + 1) ≤ 2 ^ n := Nat.pow_le_pow_right (by omega) hk
  rw [Nat.pow_succ] at h1
  omega
theorem SetTo.step {n i s : Nat} {l : List Int} {q : Int} (h : SetTo n l i s) (hx : l[i]? = some q) (hd : l.drop i = q :: l.drop (i + 1)) (hq : okQ n (prevA l i) q = true) : SetTo n l (i + 1) (s + 2 ^ q.toNat) := by
  obtain ⟨h1, h2, h3⟩ := (okQ_iff _ _ _).1 hq
  have hb := h.below hq
  have hl := (List.getElem?_eq_some_iff.1 hx).1
  refine ⟨hl, ?_, ?_, add_lt hb (by omega), fun h0 => by omega, fun p hp => ?_⟩
  · rw [h.set, hd, setF, hq, Bool.true_and]
    show _ = setF n (l[i]?) _
    rw [hx]
  · rw [h.num, hd]; rfl
  · have hp' : l[i]? = some p := hp
    rw [hx] at hp'
    cases hp'
    have := Nat.two_pow_pos q.toNat
    exact ⟨h1, by rw [Nat.pow_succ]; omega, by omega⟩
theorem SetTo.bad {n i s : Nat} {l : List Int} {q : Int} (h : SetTo n l i s) (hd : l.drop i = q :: l.drop (i + 1)) (hq : okQ n (prevA l i) q = false) : setB n l = false := by
  rw [h.set, hd, setF, hq]; rfl
theorem SetTo.done {n i s : Nat} {l : List Int} (h : SetTo n l i s) (hi : l.length ≤ i) : setB n l = true ∧ numL l = s ∧ (l ≠ [] → s ≠ 0) := by
  have hd := List.drop_eq_nil_of_le hi
  refine ⟨by rw [h.set, hd]; rfl, by rw [h.num, hd]; rfl, fun hne => ?_⟩
  have hle := h.le
  cases i with
  | zero => exact absurd (List.eq_nil_of_length_eq_zero (by omega)) hne
  | succ i =>
    have := (h.prev _ (List.getElem?_eq_getElem (show i < l.length by omega))).2.2
    omega
theorem setTo_of {n : Nat} {l : List Int} (h : setB n l = true) : ∀ k, k ≤ l.length → ∃ s, SetTo n l k s := by
  intro k
  induction k with
  | zero => intro _; exact ⟨0, SetTo.start n l⟩
  | succ k ih =>
    intro hk
    obtain ⟨s, hs⟩ := ih (by omega)
    have hd : l.drop k = l[k] :: l.drop (k + 1) := List.drop_eq_getElem_cons (by omega)
    cases hq : okQ n (prevA l k) l[k] with
    | true => exact ⟨_, hs.step (List.getElem?_eq_getElem (by omega)) hd hq⟩
    | false => rw [hs.bad hd hq] at h; cases h
/-- A set's number. -/
theorem num_lt {n : Nat} {l : List Int} (h : setB n l = true) : numL l < 2 ^ n ∧ (l ≠ [] → numL l ≠ 0) := by
  obtain ⟨s, hs⟩ := setTo_of h l.length (Nat.le_refl _)
  obtain ⟨-, h2, h3⟩ := hs.done (Nat.le_refl _)
  exact ⟨by rw [h2]; exact hs.lt, fun hne => by rw [h2]; exact h3 hne⟩
end Go.Proofs.YthlgdakdjikjhaaDoor
