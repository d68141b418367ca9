/-
  How many square-free words there are: renamed letters, one letter more. No program.
-/
import Derived.Test.YtancficmkkdnfaaLevels
namespace Go.Proofs.Ytancficmkkdnfaa

theorem endSq_map (f : UInt8 → UInt8) (hf : ∀ a b, f a = f b → a = b) (l : List UInt8) (p : Nat) : EndSq (l.map f) p ↔ EndSq l p := by
  have key : ∀ x y : Option UInt8, x.map f = y.map f ↔ x = y := by
    intro x y
    cases x <;> cases y <;> simp
    exact ⟨hf _ _, fun h => by rw [h]⟩
  simp only [EndSq, List.length_map, List.getElem?_map, key]
theorem ends_map (f : UInt8 → UInt8) (hf : ∀ a b, f a = f b → a = b) (l : List UInt8) : endsB (l.map f) = endsB l := by
  rw [Bool.eq_iff_iff, ends_iff, ends_iff]
  simp only [endSq_map f hf]
/-- How many words go on with the c-th letter. -/
def nxt (k m : Nat) (l : List UInt8) (c : Nat) : Nat := if endsB (addL l c) then 0 else (frW k m (addL l c)).length
theorem frW_three (m : Nat) (l : List UInt8) : (frW 3 (m + 1) l).length = nxt 3 m l 0 + nxt 3 m l 1 + nxt 3 m l 2 := by
  rw [frW, show List.range 3 = [0, 1, 2] from rfl]
  simp only [List.flatMap_cons, List.flatMap_nil, List.length_append, List.append_nil, nxt]
  split <;> split <;> split <;> (try simp) <;> (try omega)
theorem frW_two (m : Nat) (l : List UInt8) : (frW 2 (m + 1) l).length = nxt 2 m l 0 + nxt 2 m l 1 := by
  rw [frW, show List.range 2 = [0, 1] from rfl]
  simp only [List.flatMap_cons, List.flatMap_nil, List.length_append, List.append_nil, nxt]
  split <;> split <;> (try simp)
def rot3 (c : UInt8) : UInt8 := if c = 97 then 98 else if c = 98 then 99 else if c = 99 then 97 else c
def rot2 (c : UInt8) : UInt8 := if c = 97 then 98 else if c = 98 then 97 else c
theorem rot3_inj (a b : UInt8) (h : rot3 a = rot3 b) : a = b := by
  unfold rot3 at h
  split at h <;> split at h <;> (try split at h) <;> (try split at h) <;> (try split at h) <;> (try split at h) <;> simp_all
theorem rot2_inj (a b : UInt8) (h : rot2 a = rot2 b) : a = b := by
  unfold rot2 at h
  split at h <;> split at h <;> (try split at h) <;> (try split at h) <;> simp_all
theorem rot3_len : ∀ (m : Nat) (l : List UInt8), (frW 3 m (l.map rot3)).length = (frW 3 m l).length := by
  intro m
  induction m with
  | zero => intro l; rfl
  | succ m ih =>
    intro l
    have e : ∀ c d : Nat, rot3 (UInt8.ofNat (97 + c)) = UInt8.ofNat (97 + d) → nxt 3 m (l.map rot3) d = nxt 3 m l c := fun c d h => by
      have : addL (l.map rot3) d = (addL l c).map rot3 := by simp [addL, ← h]
      rw [nxt, this, ends_map _ rot3_inj, ih]; rfl
    rw [frW_three, frW_three, e 2 0 rfl, e 0 1 rfl, e 1 2 rfl]; omega
theorem rot2_len : ∀ (m : Nat) (l : List UInt8), (frW 2 m (l.map rot2)).length = (frW 2 m l).length := by
  intro m
  induction m with
  | zero => intro l; rfl
  | succ m ih =>
    intro l
    have e : ∀ c d : Nat, rot2 (UInt8.ofNat (97 + c)) = UInt8.ofNat (97 + d) → nxt 2 m (l.map rot2) d = nxt 2 m l c := fun c d h => by
      have : addL (l.map rot2) d = (addL l c).map rot2 := by simp [addL, ← h]
      rw [nxt, this, ends_map _ rot2_inj, ih]; rfl
    rw [frW_two, frW_two, e 1 0 rfl, e 0 1 rfl]; omega
theorem count_mod (n k : Nat) (hn : 1 ≤ n) (hk : 1 ≤ k) (hk3 : k ≤ 3) : (frW k n []).length % k = 0 := by
  obtain ⟨m, rfl⟩ : ∃ m, n = m + 1 := ⟨n - 1, by omega⟩
  rcases (show k = 1 ∨ k = 2 ∨ k = 3 by omega) with rfl | rfl | rfl
  · omega
  · have e : nxt 2 m [] 1 = nxt 2 m [] 0 := by
      have : addL [] 1 = (addL [] 0).map rot2 := rfl
      rw [nxt, this, ends_map _ rot2_inj, rot2_len]; rfl
    rw [frW_two, e]; omega
  · have e1 : nxt 3 m [] 1 = nxt 3 m [] 0 := by
      have : addL [] 1 = (addL [] 0).map rot3 := rfl
      rw [nxt, this, ends_map _ rot3_inj, rot3_len]; rfl
    have e2 : nxt 3 m [] 2 = nxt 3 m [] 1 := by
      have : addL [] 2 = (addL [] 1).map rot3 := rfl
      rw [nxt, this, ends_map _ rot3_inj, rot3_len]; rfl
    rw [frW_three, e2, e1]; omega
theorem chl_short (k : Nat) (x : List UInt8) (c0 : Nat) (h0 : c0 < k) (he : endsB (addL x c0) = true) : (chl k x).length + 1 ≤ k := by
  have : ∀ L : List Nat, (L.flatMap fun c => if endsB (addL x c) then [] else [addL x c]).length ≤ L.length ∧ (c0 ∈ L → (L.flatMap fun c => if endsB (addL x c) then [] else [addL x c]).length + 1 ≤ L.length) := by
    intro L
    induction L with
    | nil => simp
    | cons c L ih =>
      rw [List.flatMap_cons, List.length_append, List.length_cons]
      have h1 : (if endsB (addL x c) then [] else [addL x c]).length ≤ 1 := by split <;> simp
      refine ⟨by omega, fun h => ?_⟩
      rcases List.mem_cons.1 h with rfl | h
      · rw [if_pos he, List.length_nil]; have := ih.1; omega
      · have := ih.2 h; omega
  have := (this (List.range k)).2 (List.mem_range.2 h0)
  rwa [List.length_range] at this
theorem twice_ends (x : List UInt8) (c : UInt8) (r : List UInt8) (h : x = r ++ [c]) : endsB (x ++ [c]) = true := by
  subst h
  refine (ends_iff _).2 ⟨1, Nat.le_refl _, by simp, fun k hk => ?_⟩
  have : k = 0 := by omega
  subst this
  simp
theorem count_grows (n k : Nat) (hn : 1 ≤ n) (hk : k ≤ 20) : (frW k (n + 1) []).length ≤ (frW k n []).length * (k - 1) := by
  rw [frW_snoc]
  have : ∀ L : List (List UInt8), (∀ x ∈ L, x ∈ frW k n []) → (L.flatMap (chl k)).length ≤ L.length * (k - 1) := by
    intro L
    induction L with
    | nil => simp
    | cons x L ih =>
      intro h
      have h1 := ih fun y hy => h y (by simp [hy])
      obtain ⟨r, hr, hx, ho, _⟩ := (mem_frW k hk n [] x rfl rfl).1 (h x (by simp))
      rw [List.nil_append] at hx
      subst hx
      rcases List.eq_nil_or_concat x with rfl | ⟨y, b, rfl⟩
      · simp at hr; omega
      · rw [List.concat_eq_append] at ho ⊢
        obtain ⟨c, hc, rfl⟩ := letter_of (List.all_eq_true.1 ho b (by simp))
        have := chl_short k (y ++ [UInt8.ofNat (97 + c)]) c hc (twice_ends _ _ y rfl)
        rw [List.flatMap_cons, List.length_append, List.length_cons, Nat.add_mul, Nat.one_mul]
        omega
  exact this _ fun _ h => h
theorem count_more (k : Nat) : ∀ (m : Nat) (l : List UInt8), (frW k m l).length ≤ (frW (k + 1) m l).length := by
  intro m
  induction m with
  | zero => intro l; exact Nat.le_refl _
  | succ m ih =>
    intro l
    rw [frW, frW, List.range_succ, List.flatMap_append, List.length_append]
    refine Nat.le_trans ?_ (Nat.le_add_right _ _)
    generalize List.range k = L
    induction L with
    | nil => simp
    | cons c L ihL =>
      rw [List.flatMap_cons, List.flatMap_cons, List.length_append, List.length_append]
      refine Nat.add_le_add ?_ ihL
      split
      · exact Nat.le_refl _
      · exact ih _
end Go.Proofs.Ytancficmkkdnfaa
