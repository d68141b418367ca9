/-
  Whole numbers: more rows than columns have a relation; a bound for skew pairs of sets. No program.
-/
namespace Go.Proofs.YthlgdakdjikjhaaDoor

/-- A sum over a list. -/
def lsum {ι : Type} : List ι → (ι → Int) → Int
  | [], _ => 0
  | i :: l, f => f i + lsum l f
theorem lsum_comb {ι : Type} (x y : Int) (f g : ι → Int) : ∀ l : List ι, lsum l (fun i => x * f i + y * g i) = x * lsum l f + y * lsum l g := by
  intro l
  induction l with
  | nil => simp [lsum]
  | cons i l ih => simp only [lsum, ih, Int.mul_add]; omega
theorem lsum_congr {ι : Type} {f g : ι → Int} : ∀ {l : List ι}, (∀ i ∈ l, f i = g i) → lsum l f = lsum l g := by
  intro l
  induction l with
  | nil => intro _; rfl
  | cons i l ih =>
    intro h
    rw [lsum, lsum, h i (List.mem_cons_self ..), ih fun j hj => h j (List.mem_cons_of_mem _ hj)]
theorem lsum_zero {ι : Type} {f : ι → Int} {l : List ι} (h : ∀ i ∈ l, f i = 0) : lsum l f = 0 := by
  induction l with
  | nil => rfl
  | cons i l ih => rw [lsum, h i (List.mem_cons_self ..), ih fun j hj => h j (List.mem_cons_of_mem _ hj)]; rfl
theorem lsum_mul {ι : Type} (x : Int) (f : ι → Int) (l : List ι) : lsum l (fun i => x * f i) = x * lsum l f := by
  have := lsum_comb x 0 f f l
  rw [Int.zero_mul, Int.add_zero] at this
  rw [← this]
  exact lsum_congr fun i _ => by omega
theorem lsum_add {ι : Type} (f g : ι → Int) (l : List ι) : lsum l (fun i => f i + g i) = lsum l f + lsum l g := by
  have := lsum_comb 1 1 f g l
  rw [Int.one_mul, Int.one_mul] at this
  rw [← this]
  exact lsum_congr fun i _ => by omega
theorem lsum_swap {ι κ : Type} (f : ι → κ → Int) (k : List κ) : ∀ l : List ι, lsum l (fun i => lsum k (f i)) = lsum k (fun a => lsum l fun i => f i a) := by
  intro l
  induction l with
  | nil => rw [lsum]; exact (lsum_zero fun a _ => rfl).symm
  | cons i l ih =>
    rw [lsum, ih, ← lsum_add]
    exact lsum_congr fun a _ => rfl
theorem lsum_append {ι : Type} (f : ι → Int) : ∀ l k : List ι, lsum (l ++ k) f = lsum l f + lsum k f := by
  intro l k
  induction l with
  | nil => simp [lsum]
  | cons i l ih => rw [List.cons_append, lsum, lsum, ih]; omega
theorem lsum_map {ι κ : Type} (g : κ → ι) (f : ι → Int) : ∀ l : List κ, lsum (l.map g) f = lsum l fun a => f (g a) := by
  intro l
  induction l with
  | nil => rfl
  | cons i l ih => rw [List.map_cons, lsum, lsum, ih]
theorem lsum_erase {f : Nat → Int} {p : Nat} : ∀ {l : List Nat}, p ∈ l → lsum l f = f p + lsum (l.erase p) f := by
  intro l
  induction l with
  | nil => intro h; cases h
  | cons i l ih =>
    intro h
    by_cases he : i = p
    · subst he; rw [List.erase_cons_head, lsum]
    · have hp : p ∈ l := by
        rcases List.mem_cons.1 h with h | h
        · exact absurd h.symm he
        · exact h
      rw [List.erase_cons_tail (by simpa using he), lsum, lsum, ih hp]; omega

/-- More rows than columns have a relation. -/
theorem relation {κ : Type} : ∀ (cols : List κ) (F : Nat → κ → Int) (rows : List Nat), rows.Nodup → cols.length < rows.length → ∃ c : Nat → Int, (∃ i ∈ rows, c i ≠ 0) ∧ ∀ a ∈ cols, lsum rows (fun i => c i * F i a) = 0 := by
  intro cols
  induction cols with
  | nil =>
    intro F rows _ h
    cases rows with
    | nil => simp at h
    | cons i r => exact ⟨fun _ => 1, ⟨i, List.mem_cons_self .., (by decide : (1 : Int) ≠ 0)⟩, fun a ha => by cases ha⟩
  | cons k cols ih =>
    intro F rows hn h
    rw [List.length_cons] at h
    by_cases hz : ∀ i ∈ rows, F i k = 0
    · obtain ⟨c, h1, h2⟩ := ih F rows hn (by omega)
      refine ⟨c, h1, fun a ha => ?_⟩
      rcases List.mem_cons.1 ha with rfl | ha
      · exact lsum_zero fun i hi => by rw [hz i hi, Int.mul_zero]
      · exact h2 a ha
    · have : ∃ p ∈ rows, F p k ≠ 0 := by
        refine Classical.byContradiction fun hc => hz fun i hi => ?_
        exact Classical.byContradiction fun hh => hc ⟨i, hi, hh⟩
      obtain ⟨p, hp, hpk⟩ := this
      have hne : ∀ i ∈ rows.erase p, i ≠ p := fun i hi => (hn.mem_erase_iff.1 hi).1
      obtain ⟨c, ⟨i0, hi0, hc0⟩, h2⟩ := ih (fun i a => F p k * F i a - F i k * F p a) (rows.erase p) (hn.erase p) (by rw [List.length_erase_of_mem hp]; have := List.length_pos_of_mem hp; omega)
      have hi0' := List.mem_of_mem_erase hi0
      refine ⟨fun i => if i = p then - lsum (rows.erase p) (fun j => c j * F j k) else c i * F p k, ⟨i0, hi0', ?_⟩, fun a ha => ?_⟩
      · show (if i0 = p then _ else _) ≠ 0
        rw [if_neg (hne i0 hi0)]
        exact Int.mul_ne_zero hc0 hpk
      · have e1 : lsum (rows.erase p) (fun i => (if i = p then - lsum (rows.erase p) (fun j => c j * F j k) else c i * F p k) * F i a) = F p k * lsum (rows.erase p) (fun i => c i * F i a) := by
          rw [← lsum_mul]
          refine lsum_congr fun i hi => ?_
          rw [if_neg (hne i hi), Int.mul_right_comm, Int.mul_comm]
        rw [lsum_erase hp, e1]
        show (if p = p then - lsum (rows.erase p) (fun j => c j * F j k) else c p * F p k) * F p a + _ = 0
        rw [if_pos rfl]
        rcases List.mem_cons.1 ha with rfl | ha
        · rw [Int.neg_mul, Int.mul_comm (F p a)]; omega
        · have := h2 a ha
          have e2 : lsum (rows.erase p) (fun i => c i * (F p k * F i a - F i k * F p a)) = F p k * lsum (rows.erase p) (fun i => c i * F i a) + (- F p a) * lsum (rows.erase p) (fun j => c j * F j k) := by
            rw [← lsum_comb]
            refine lsum_congr fun i _ => ?_
            rw [Int.mul_sub, Int.neg_mul, ← Int.mul_assoc, Int.mul_comm (c i) (F p k), Int.mul_assoc, ← Int.mul_assoc (c i), Int.mul_comm (c i * F i k)]
            omega
          rw [e2] at this
          rw [Int.neg_mul, Int.mul_comm (lsum _ _) (F p a)]
          rw [Int.neg_mul] at this
          omega
/-- A list of numbers has a last one that is not nought. -/
theorem last_ne (c : Nat → Int) : ∀ m : Nat, (∃ i, i < m ∧ c i ≠ 0) → ∃ i, i < m ∧ c i ≠ 0 ∧ ∀ j, i < j → j < m → c j = 0 := by
  intro m
  induction m with
  | zero => rintro ⟨i, hi, _⟩; omega
  | succ m ih =>
    rintro ⟨i, hi, hc⟩
    by_cases h : c m = 0
    · obtain ⟨i', h1, h2, h3⟩ := ih ⟨i, by
        rcases Nat.lt_or_ge i m with h1 | h1
        · exact h1
        · have : i = m := by omega
          subst this; exact absurd h hc, hc⟩
      refine ⟨i', by omega, h2, fun j hj hm => ?_⟩
      rcases Nat.lt_or_ge j m with h4 | h4
      · exact h3 j hj h4
      · have : j = m := by omega
        subst this; exact h
    · exact ⟨m, by omega, h, fun j h1 h2 => by omega⟩
theorem lsum_one {m i0 : Nat} {f : Nat → Int} (hi : i0 < m) (h : ∀ i, i < m → i ≠ i0 → f i = 0) : lsum (List.range m) f = f i0 := by
  rw [lsum_erase (List.mem_range.2 hi)]
  rw [lsum_zero fun i hi' => ?_]
  · omega
  · have := List.nodup_range.mem_erase_iff.1 hi'
    exact h i (List.mem_range.1 this.2) this.1
/-- A skew system is no larger than the number of columns. -/
theorem skew {κ : Type} (cols : List κ) (m : Nat) (F G : Nat → κ → Int) (hz : ∀ i j, i < j → j < m → lsum cols (fun a => F i a * G j a) = 0) (hn : ∀ i, i < m → lsum cols (fun a => F i a * G i a) ≠ 0) : m ≤ cols.length := by
  rcases Nat.lt_or_ge cols.length m with h | h
  · exfalso
    obtain ⟨c, ⟨i, hi, hc⟩, h2⟩ := relation cols F (List.range m) List.nodup_range (by rw [List.length_range]; exact h)
    obtain ⟨i0, h3, h4, h5⟩ := last_ne c m ⟨i, List.mem_range.1 hi, hc⟩
    have e1 : lsum (List.range m) (fun i => c i * lsum cols (fun a => F i a * G i0 a)) = 0 := by
      have : lsum (List.range m) (fun i => c i * lsum cols (fun a => F i a * G i0 a)) = lsum (List.range m) (fun i => lsum cols fun a => c i * (F i a * G i0 a)) := lsum_congr fun i _ => (lsum_mul _ _ _).symm
      rw [this, lsum_swap]
      refine lsum_zero fun a ha => ?_
      have h6 := h2 a ha
      have : lsum (List.range m) (fun i => c i * (F i a * G i0 a)) = G i0 a * lsum (List.range m) (fun i => c i * F i a) := by
        rw [← lsum_mul]
        exact lsum_congr fun i _ => by rw [← Int.mul_assoc, Int.mul_comm]
      rw [this, h6, Int.mul_zero]
    rw [lsum_one h3 fun i hi hne => ?_] at e1
    · rcases Int.mul_eq_zero.1 e1 with h6 | h6
      · exact h4 h6
      · exact hn i0 h3 h6
    · rcases Nat.lt_or_ge i i0 with h6 | h6
      · rw [hz i i0 h6 h3, Int.mul_zero]
      · rw [h5 i (by omega) hi, Int.zero_mul]
  · exact h

/-- The coefficients of the product of (u - a). -/
def coef : List Nat → Nat → Int
  | [], k => if k = 0 then 1 else 0
  | a :: r, k => (if k = 0 then 0 else coef r (k - 1)) - (a : Int) * coef r k
/-- The product of (u - a). -/
def prodA : List Nat → Int → Int
  | [], _ => 1
  | a :: r, u => (u - (a : Int)) * prodA r u
theorem coef_high : ∀ (l : List Nat) (k : Nat), l.length < k → coef l k = 0 := by
  intro l
  induction l with
  | nil => intro k h; simp at h; rw [coef, if_neg (by omega)]
  | cons a r ih =>
    intro k h
    rw [List.length_cons] at h
    rw [coef, if_neg (by omega), ih _ (by omega), ih _ (by omega), Int.mul_zero]; rfl
/-- A polynomial's value. -/
def polyV (e : Nat → Int) (t : Nat) (u : Int) : Int := lsum (List.range t) fun k => e k * u ^ k
theorem polyV_succ (e : Nat → Int) (t : Nat) (u : Int) : polyV e (t + 1) u = polyV e t u + e t * u ^ t := by
  unfold polyV
  rw [List.range_succ, lsum_append]
  simp [lsum]
theorem polyV_comb (x y : Int) (e f : Nat → Int) (t : Nat) (u : Int) : polyV (fun k => x * e k + y * f k) t u = x * polyV e t u + y * polyV f t u := by
  unfold polyV
  rw [← lsum_comb]
  exact lsum_congr fun k _ => by rw [Int.add_mul, Int.mul_assoc, Int.mul_assoc]
theorem polyV_congr {e f : Nat → Int} {t : Nat} {u : Int} (h : ∀ k, e k = f k) : polyV e t u = polyV f t u := by
  unfold polyV
  exact lsum_congr fun k _ => by rw [h]
theorem polyV_shift (e : Nat → Int) (u : Int) : ∀ t : Nat, polyV (fun k => if k = 0 then 0 else e (k - 1)) (t + 1) u = u * polyV e t u := by
  intro t
  induction t with
  | zero => simp [polyV, lsum]
  | succ t ih =>
    rw [polyV_succ, ih, polyV_succ e t, if_neg (by omega), Nat.add_sub_cancel, Int.mul_add, Int.pow_succ]
    congr 1
    rw [← Int.mul_assoc, Int.mul_comm]
theorem polyV_coef : ∀ (l : List Nat) (u : Int), polyV (coef l) (l.length + 1) u = prodA l u := by
  intro l u
  induction l with
  | nil => simp [polyV, lsum, coef, prodA]
  | cons a r ih =>
    have h1 : polyV (coef (a :: r)) (r.length + 1 + 1) u = polyV (fun k => 1 * (if k = 0 then 0 else coef r (k - 1)) + (- (a : Int)) * coef r k) (r.length + 1 + 1) u := polyV_congr fun k => by rw [coef, Int.one_mul, Int.neg_mul]; omega
    rw [List.length_cons, h1, polyV_comb, polyV_shift, polyV_succ (coef r) (r.length + 1), ih, coef_high r _ (by omega), prodA, Int.sub_mul, Int.neg_mul]
    rw [Int.zero_mul, Int.add_zero, Int.one_mul]; omega
/-- Pairs of exponents. -/
def pairsT : Nat → List (Nat × Nat)
  | 0 => []
  | t + 1 => pairsT t ++ (List.range (t + 1)).map fun a => (a, t)
theorem pairsT_len : ∀ t, 2 * (pairsT t).length = t * (t + 1) := by
  intro t
  induction t with
  | zero => rfl
  | succ t ih =>
    rw [pairsT, List.length_append, List.length_map, List.length_range, Nat.mul_add, ih]
    rw [Nat.mul_add (t + 1), Nat.mul_add t, Nat.add_mul t 1 (t + 1), Nat.mul_add t t 1]; omega
def symV (u v : Int) (p : Nat × Nat) : Int := if p.1 = p.2 then u ^ p.1 * v ^ p.2 else u ^ p.1 * v ^ p.2 + u ^ p.2 * v ^ p.1
theorem poly_sym (e : Nat → Int) (u v : Int) : ∀ t : Nat, polyV e t u * polyV e t v = lsum (pairsT t) fun p => (e p.1 * e p.2) * symV u v p := by
  intro t
  induction t with
  | zero => simp [polyV, pairsT, lsum]
  | succ t ih =>
    have h1 : lsum (List.range t) (fun a => (e a * e t) * symV u v (a, t)) = e t * v ^ t * polyV e t u + e t * u ^ t * polyV e t v := by
      unfold polyV
      rw [← lsum_comb]
      refine lsum_congr fun a ha => ?_
      have ha := List.mem_range.1 ha
      unfold symV
      rw [if_neg (by show ¬ a = t; omega)]
      show e a * e t * (u ^ a * v ^ t + u ^ t * v ^ a) = e t * v ^ t * (e a * u ^ a) + e t * u ^ t * (e a * v ^ a)
      rw [Int.mul_add]
      congr 1 <;> simp only [Int.mul_assoc, Int.mul_left_comm, Int.mul_comm]
    rw [polyV_succ, polyV_succ, pairsT, lsum_append, lsum_map, ← ih, List.range_succ, lsum_append, h1]
    simp only [lsum, symV, if_true]
    rw [Int.mul_add, Int.add_mul, Int.add_mul]
    have e1 : e t * u ^ t * (e t * v ^ t) = e t * e t * (u ^ t * v ^ t) := by simp only [Int.mul_assoc, Int.mul_left_comm]
    have e2 : polyV e t u * (e t * v ^ t) = e t * v ^ t * polyV e t u := Int.mul_comm _ _
    rw [e1, e2]
    omega
theorem prodA_zero (l : List Nat) (u : Nat) : prodA l (u : Int) = 0 ↔ u ∈ l := by
  induction l with
  | nil => simp [prodA]
  | cons a r ih =>
    rw [prodA, Int.mul_eq_zero, ih, List.mem_cons]
    constructor
    · rintro (h | h)
      · exact .inl (by omega)
      · exact .inr h
    · rintro (h | h)
      · exact .inl (by omega)
      · exact .inr h
/-- Pairs (p, q) and sets of t numbers: a set meets all later pairs and not its own. -/
theorem skew_pairs (t m : Nat) (D : Nat → List Nat) (p q : Nat → Nat) (hl : ∀ i, i < m → (D i).length = t) (hz : ∀ i j, i < j → j < m → p j ∈ D i ∨ q j ∈ D i) (hn : ∀ i, i < m → p i ∉ D i ∧ q i ∉ D i) : 2 * m ≤ (t + 1) * (t + 2) := by
  have key : ∀ i j, i < m → lsum (pairsT (t + 1)) (fun a => (coef (D i) a.1 * coef (D i) a.2) * symV (p j) (q j) a) = prodA (D i) (p j) * prodA (D i) (q j) := by
    intro i j hi
    rw [← poly_sym, ← hl i hi, polyV_coef, polyV_coef]
  have := skew (pairsT (t + 1)) m (fun i a => coef (D i) a.1 * coef (D i) a.2) (fun j a => symV (p j) (q j) a) (fun i j hij hj => by
    rw [key i j (by omega), Int.mul_eq_zero, prodA_zero, prodA_zero]
    exact hz i j hij hj) (fun i hi => by
    rw [key i i hi]
    intro h
    rcases Int.mul_eq_zero.1 h with h | h
    · exact (hn i hi).1 ((prodA_zero _ _).1 h)
    · exact (hn i hi).2 ((prodA_zero _ _).1 h))
  have h2 := pairsT_len (t + 1)
  rw [show t + 2 = t + 1 + 1 from rfl]
  omega
end Go.Proofs.YthlgdakdjikjhaaDoor
