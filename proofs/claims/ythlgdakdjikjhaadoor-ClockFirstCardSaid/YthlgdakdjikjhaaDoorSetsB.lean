/-
  Lists that are sets, and their numbers' bits. No program.
-/
import Derived.Test.YthlgdakdjikjhaaDoorSets
import Derived.Test.YthlgdakdjikjhaaDoorMod
namespace Go.Proofs.YthlgdakdjikjhaaDoor

def castL (l : List Nat) : List Int := l.map fun (x : Nat) => (x : Int)
theorem castL_len (l : List Nat) : (castL l).length = l.length := by simp [castL]
instance (n : Nat) (l : List Int) : Decidable (setB n l = true) := inferInstance
theorem list_set : ∀ n : Nat, n < 10 → ∀ x : Nat, x < 512 → x < 2 ^ n → setB n (castL (listN x)) = true := by decide +kernel
theorem list_num : ∀ x : Nat, x < 512 → numL (castL (listN x)) = x := by decide +kernel
theorem numF_bit {n : Nat} : ∀ (l : List Int) (p : Option Int) (s : Nat), setF n p l = true → (∀ x, p = some x → 0 ≤ x ∧ s < 2 ^ (x.toNat + 1)) → (p = none → s = 0) → ∀ t, (numF l s).testBit t = true ↔ s.testBit t = true ∨ ∃ q ∈ l, q.toNat = t := by
  intro l
  induction l with
  | nil => intro p s _ _ _ t; simp [numF]
  | cons q l ih =>
    intro p s h hp h0 t
    rw [setF, Bool.and_eq_true] at h
    obtain ⟨k1, k2, k3⟩ := (okQ_iff _ _ _).1 h.1
    have hs : s < 2 ^ q.toNat := by
      cases p with
      | none => rw [h0 rfl]; exact Nat.two_pow_pos _
      | some x =>
        obtain ⟨hx, hs⟩ := hp x rfl
        have := k3 x rfl
        exact Nat.lt_of_lt_of_le hs (Nat.pow_le_pow_right (by omega) (by omega))
    rw [numF, ih (some q) _ h.2 (fun x hx => by cases hx; exact ⟨k1, by rw [Nat.pow_succ]; omega⟩) (fun hh => by cases hh), ← or_add hs, Nat.testBit_or, Bool.or_eq_true, Nat.testBit_two_pow]
    simp only [decide_eq_true_eq, List.mem_cons]
    constructor
    · rintro ((h | h) | ⟨x, hx, h⟩)
      · exact .inl h
      · exact .inr ⟨q, .inl rfl, h⟩
      · exact .inr ⟨x, .inr hx, h⟩
    · clear h
      rintro (h | ⟨x, hq | hx, h2⟩)
      · exact .inl (.inl h)
      · exact .inl (.inr (by rw [← hq]; exact h2))
      · exact .inr ⟨x, hx, h2⟩
theorem numL_bit {n : Nat} {l : List Int} (h : setB n l = true) (t : Nat) : (numL l).testBit t = true ↔ ∃ q ∈ l, q.toNat = t := by
  have := numF_bit l none 0 h (fun x hx => by cases hx) (fun _ => rfl) t
  rw [numL, this]
  simp
/-- A set's number has no more bits than the list has numbers. -/
theorem size_num {n : Nat} {l : List Int} (h : setB n l = true) : sizeN (numL l) ≤ l.length := by
  have := len_sub (listN (numL l)) (l.map Int.toNat) (listN_nodup _) fun t ht => by
    obtain ⟨q, hq, he⟩ := (numL_bit h t).1 ((listN_mem _ _).1 ht).2
    exact List.mem_map.2 ⟨q, hq, he⟩
  rw [List.length_map] at this
  exact this
theorem setF_filter {n : Nat} (f : Nat → Bool) : ∀ (k b : Nat) (p : Option Int), b + k ≤ n → (∀ x, p = some x → x < (b : Int)) → setF n p (castL ((List.range' b k).filter f)) = true := by
  intro k
  induction k with
  | zero => intro b p _ _; rfl
  | succ k ih =>
    intro b p hb hp
    rw [List.range'_succ, List.filter_cons]
    split
    · rw [castL, List.map_cons, setF, Bool.and_eq_true]
      refine ⟨(okQ_iff _ _ _).2 ⟨by omega, by omega, hp⟩, ?_⟩
      exact ih (b + 1) (some (b : Int)) (by omega) fun x hx => by cases hx; omega
    · exact ih (b + 1) p (by omega) fun x hx => by have := hp x hx; omega
theorem setB_filter (n : Nat) (f : Nat → Bool) : setB n (castL ((List.range n).filter f)) = true := by
  rw [List.range_eq_range']
  exact setF_filter f n 0 none (by omega) fun x hx => by cases hx

/-- Is a state in the set that is made of a list's first i numbers? -/
def inP (n : Nat) (l : List Int) (q i : Nat) : Bool := (decide (l.length = 0) && decide (q = 0)) || (l.take i).any fun z => modN z n == q
def statesL (n : Nat) (l : List Int) : List Nat := (List.range n).filter fun q => inP n l q 20
theorem states_set (n : Nat) (l : List Int) : setB n (castL (statesL n l)) = true := setB_filter n _
theorem states_len (n : Nat) (l : List Int) : (statesL n l).length ≤ n := by
  unfold statesL
  have := List.length_filter_le (fun q => inP n l q 20) (List.range n)
  rw [List.length_range] at this
  exact this
theorem states_ne (n : Nat) (l : List Int) (hn : 1 ≤ n) : statesL n l ≠ [] := by
  intro h
  unfold statesL at h
  rw [List.filter_eq_nil_iff] at h
  cases l with
  | nil => exact h 0 (List.mem_range.2 (by omega)) rfl
  | cons z l =>
    refine h (modN z n) (List.mem_range.2 (modN_lt z n (by omega))) ?_
    unfold inP
    rw [List.take_succ_cons, List.any_cons]
    simp

/-- A letter made of any byte. -/
def letK (k : Nat) (c : UInt8) : UInt8 := UInt8.ofNat (97 + c.toNat % k)
def mkWord (k : Nat) (l : List UInt8) : List UInt8 := l.map (letK k)
theorem letK_nat (k : Nat) (c : UInt8) (h1 : 1 ≤ k) (h4 : k ≤ 4) : (letK k c).toNat = 97 + c.toNat % k := by
  have := Nat.mod_lt c.toNat (show k > 0 by omega)
  unfold letK
  rw [UInt8.toNat_ofNat']; omega
theorem letK_ok (k : Nat) (c : UInt8) (h1 : 1 ≤ k) (h4 : k ≤ 4) : letB k (letK k c) = true := by
  have := Nat.mod_lt c.toNat (show k > 0 by omega)
  rw [letB_iff, letK_nat k c h1 h4]; omega
theorem mkWord_all (k : Nat) (l : List UInt8) (h1 : 1 ≤ k) (h4 : k ≤ 4) : (mkWord k l).all (letB k) = true := by
  rw [List.all_eq_true]
  intro c hc
  obtain ⟨x, -, rfl⟩ := List.mem_map.1 hc
  exact letK_ok k x h1 h4
end Go.Proofs.YthlgdakdjikjhaaDoor
