/-
  No program: of 2n - 1 whole numbers, n from 1 to 20, there are n whose sum is a multiple of n (Erdos, Ginzburg, Ziv).
-/
namespace Go.Proofs.YtkmpdcckgibkhaaGreat

/-- Of 2n - 1 things with numbers there are n whose numbers have a multiple of n as their sum. -/
def Deals (n : Nat) : Prop := ∀ (α : Type) (f : α → Int) (l : List α), 2 * n - 1 ≤ l.length → ∃ s r, l.Perm (s ++ r) ∧ s.length = n ∧ (n : Int) ∣ (s.map f).sum

theorem groups {α : Type} {a : Nat} (ha : Deals a) (f : α → Int) : ∀ k (l : List α), (k + 1) * a ≤ l.length + 1 → ∃ (ss : List (List α)) (r : List α), l.Perm (ss.flatten ++ r) ∧ ss.length = k ∧ ∀ s ∈ ss, s.length = a ∧ (a : Int) ∣ (s.map f).sum
  | 0, l, _ => ⟨[], l, by simp, rfl, by simp⟩
  | k + 1, l, h => by
    have e1 : (k + 1 + 1) * a = k * a + 2 * a := by rw [Nat.add_mul, Nat.add_mul]; omega
    obtain ⟨s, r, hp, hs, hd⟩ := ha α f l (by omega)
    have hl := hp.length_eq
    rw [List.length_append] at hl
    obtain ⟨ss, r', hp', hk, hall⟩ := groups ha f k r (by rw [Nat.add_mul]; omega)
    refine ⟨s :: ss, r', ?_, by simp [hk], fun t ht => ?_⟩
    · have := hp.trans (hp'.append_left s)
      simpa using this
    · rcases List.mem_cons.1 ht with rfl | ht
      · exact ⟨hs, hd⟩
      · exact hall t ht

theorem flatten_len {α : Type} {a : Nat} : ∀ (t : List (List α)), (∀ s ∈ t, s.length = a) → t.flatten.length = t.length * a
  | [], _ => by simp
  | s :: t, h => by
    have := flatten_len t fun s hs => h s (List.mem_cons_of_mem _ hs)
    simp only [List.flatten_cons, List.length_append, List.length_cons, this, h s (List.mem_cons_self ..), Nat.add_mul]
    omega

theorem flatten_sum {α : Type} (f : α → Int) (a : Nat) : ∀ (t : List (List α)), (∀ s ∈ t, (a : Int) ∣ (s.map f).sum) → (t.flatten.map f).sum = (a : Int) * (t.map fun s => (s.map f).sum / (a : Int)).sum
  | [], _ => by simp
  | s :: t, h => by
    have := flatten_sum f a t fun s hs => h s (List.mem_cons_of_mem _ hs)
    have e := Int.mul_ediv_cancel' (h s (List.mem_cons_self ..))
    simp only [List.flatten_cons, List.map_append, List.sum_append, List.map_cons, List.sum_cons, this, Int.mul_add, e]

theorem Deals.mul {a b : Nat} (ha : Deals a) (hb : Deals b) (h0 : 0 < b) : Deals (a * b) := by
  intro α f l hl
  have e1 : (2 * b - 1 + 1) * a = 2 * (a * b) := by rw [show 2 * b - 1 + 1 = 2 * b by omega, Nat.mul_assoc, Nat.mul_comm b a]
  obtain ⟨ss, r, hp, hk, hall⟩ := groups ha f (2 * b - 1) l (by omega)
  obtain ⟨t, u, hq, ht, hd⟩ := hb (List α) (fun s => (s.map f).sum / (a : Int)) ss (by omega)
  have hin : ∀ s ∈ t, s ∈ ss := fun s hs => hq.mem_iff.2 (List.mem_append_left _ hs)
  refine ⟨t.flatten, u.flatten ++ r, ?_, ?_, ?_⟩
  · have h1 := hq.flatten
    rw [List.flatten_append] at h1
    exact hp.trans (by rw [← List.append_assoc]; exact h1.append_right r)
  · rw [flatten_len t fun s hs => (hall s (hin s hs)).1, ht, Nat.mul_comm]
  · rw [flatten_sum f a t fun s hs => (hall s (hin s hs)).2, Int.natCast_mul]
    exact Int.mul_dvd_mul (Int.dvd_refl _) hd

/-- Multiples of a remainder that is not 0 reach every remainder. -/
def Gens (p : Nat) : Prop := ∀ d, d < p → d = 0 ∨ ∀ x, x < p → ∃ k, k < p ∧ (k * d) % p = x
instance (p : Nat) : Decidable (Gens p) := by unfold Gens; infer_instance

/-- A part of one of each pair has, beside the sum of the first ones, the sum x. -/
def Hits {α : Type} (p : Nat) (f : α → Int) (ps : List (α × α)) (x : Int) : Prop :=
  ∃ s r, (ps.flatMap fun q => [q.1, q.2]).Perm (s ++ r) ∧ s.length = ps.length ∧ (p : Int) ∣ (s.map f).sum - (ps.map fun q => f q.1).sum - x

theorem Hits.first {α : Type} {p : Nat} {f : α → Int} {ps : List (α × α)} {x : Int} (q : α × α) (h : Hits p f ps x) : Hits p f (q :: ps) x := by
  obtain ⟨s, r, hp, hs, hd⟩ := h
  refine ⟨q.1 :: s, q.2 :: r, ?_, by simp [hs], ?_⟩
  · simp only [List.flatMap_cons, List.cons_append, List.nil_append]
    exact List.Perm.cons _ ((hp.cons q.2).trans List.perm_middle.symm)
  · simp only [List.map_cons, List.sum_cons]
    have e : f q.1 + (s.map f).sum - (f q.1 + (ps.map fun q => f q.1).sum) - x = (s.map f).sum - (ps.map fun q => f q.1).sum - x := by omega
    rw [e]; exact hd

theorem Hits.second {α : Type} {p : Nat} {f : α → Int} {ps : List (α × α)} {x : Int} (q : α × α) (h : Hits p f ps x) : Hits p f (q :: ps) (x + (f q.2 - f q.1)) := by
  obtain ⟨s, r, hp, hs, hd⟩ := h
  refine ⟨q.2 :: s, q.1 :: r, ?_, by simp [hs], ?_⟩
  · simp only [List.flatMap_cons, List.cons_append, List.nil_append]
    refine (List.Perm.swap _ _ _).trans (List.Perm.cons _ ((hp.cons q.1).trans List.perm_middle.symm))
  · simp only [List.map_cons, List.sum_cons]
    have e : f q.2 + (s.map f).sum - (f q.1 + (ps.map fun q => f q.1).sum) - (x + (f q.2 - f q.1)) = (s.map f).sum - (ps.map fun q => f q.1).sum - x := by omega
    rw [e]; exact hd

theorem Hits.same {α : Type} {p : Nat} {f : α → Int} {ps : List (α × α)} {x y : Int} (h : Hits p f ps x) (e : (p : Int) ∣ x - y) : Hits p f ps y := by
  obtain ⟨s, r, hp, hs, hd⟩ := h
  refine ⟨s, r, hp, hs, ?_⟩
  have := Int.dvd_add hd e
  have e2 : (s.map f).sum - (ps.map fun q => f q.1).sum - x + (x - y) = (s.map f).sum - (ps.map fun q => f q.1).sum - y := by omega
  rwa [e2] at this

theorem count_lt {p q : Nat → Bool} : ∀ (l : List Nat), (∀ x ∈ l, p x = true → q x = true) → (∃ x ∈ l, p x = false ∧ q x = true) → l.countP p < l.countP q
  | [], _, ⟨x, hx, _⟩ => by simp at hx
  | y :: l, h, ⟨x, hx, h1, h2⟩ => by
    have hm : l.countP p ≤ l.countP q := List.countP_mono_left fun x hx => h x (List.mem_cons_of_mem _ hx)
    rcases List.mem_cons.1 hx with rfl | hx
    · simp [h1, h2]; omega
    · have := count_lt l (fun x hx => h x (List.mem_cons_of_mem _ hx)) ⟨x, hx, h1, h2⟩
      have hy := h y (List.mem_cons_self ..)
      simp only [List.countP_cons]
      split <;> split <;> simp_all <;> omega

open Classical in
/-- How many remainders a list of pairs hits. -/
noncomputable def hitN {α : Type} (p : Nat) (f : α → Int) (ps : List (α × α)) : Nat := (List.range p).countP fun (x : Nat) => decide (Hits p f ps (x : Int))

theorem closed_all {p : Nat} (hg : Gens p) {S : Int → Prop} (hs : ∀ x y, S x → (p : Int) ∣ x - y → S y) (x0 : Int) (h0 : S x0) (d : Int) (hd : ¬ (p : Int) ∣ d) (hp : 0 < p) (hstep : ∀ x, S x → S (x + d)) (y : Int) : S y := by
  have hmul : ∀ k : Nat, S (x0 + k * d) := by
    intro k
    induction k with
    | zero => simpa using h0
    | succ k ih =>
      have := hstep _ ih
      have e : x0 + (k : Int) * d + d = x0 + ((k + 1 : Nat) : Int) * d := by rw [Int.natCast_add, Int.add_mul]; omega
      rwa [e] at this
  have hp' : (0 : Int) < p := by omega
  have hd0 := Int.emod_nonneg d (show (p : Int) ≠ 0 by omega)
  have hd1 := Int.emod_lt_of_pos d hp'
  have hy0 := Int.emod_nonneg (y - x0) (show (p : Int) ≠ 0 by omega)
  have hy1 := Int.emod_lt_of_pos (y - x0) hp'
  rcases hg (d % p).toNat (by omega) with h | h
  · exact absurd (Int.dvd_of_emod_eq_zero (by omega)) hd
  · obtain ⟨k, -, hk⟩ := h ((y - x0) % p).toNat (by omega)
    refine hs _ y (hmul k) ?_
    have e1 : ((k : Int) * (d % p)) % p = (y - x0) % p := by
      have : ((k * (d % p).toNat % p : Nat) : Int) = (((y - x0) % p).toNat : Int) := by rw [hk]
      rw [Int.natCast_emod, Int.natCast_mul, Int.toNat_of_nonneg hd0, Int.toNat_of_nonneg hy0] at this
      exact this
    have e2 : ((k : Int) * d) % p = (y - x0) % p := by rw [← e1]; simp [Int.mul_emod]
    have : (p : Int) ∣ (k : Int) * d - (y - x0) := Int.dvd_of_emod_eq_zero (by rw [Int.sub_emod, e2]; simp)
    have e4 : x0 + (k : Int) * d - y = (k : Int) * d - (y - x0) := by omega
    rwa [e4]

theorem hitN_ge {α : Type} {p : Nat} (hg : Gens p) (hp : 0 < p) (f : α → Int) : ∀ (ps : List (α × α)), (∀ q ∈ ps, ¬ (p : Int) ∣ f q.2 - f q.1) → (∀ y, Hits p f ps y) ∨ ps.length + 1 ≤ hitN p f ps
  | [], _ => by
    right
    have : 0 < hitN p f [] := by
      unfold hitN
      rw [List.countP_pos_iff]
      exact ⟨0, by simp; omega, by simp; exact ⟨[], [], by simp, rfl, by simp⟩⟩
    simpa using (show 1 ≤ hitN p f [] from this)
  | q :: ps, h => by
    have hq := h q (List.mem_cons_self ..)
    rcases hitN_ge hg hp f ps fun q hq => h q (List.mem_cons_of_mem _ hq) with ih | ih
    · exact .inl fun y => (ih y).first q
    by_cases hc : ∀ x, Hits p f ps x → Hits p f ps (x + (f q.2 - f q.1))
    · left
      have h0 : ∃ x0, Hits p f ps x0 := by
        have : 0 < hitN p f ps := by omega
        unfold hitN at this
        rw [List.countP_pos_iff] at this
        obtain ⟨x, -, hx⟩ := this
        exact ⟨x, by simpa using hx⟩
      obtain ⟨x0, h0⟩ := h0
      exact fun y => (closed_all hg (fun x y a b => a.same b) x0 h0 _ hq hp hc y).first q
    · right
      have ⟨x, hx⟩ := Classical.not_forall.1 hc
      have ⟨h1, h2⟩ := Classical.not_imp.1 hx
      have hlt : hitN p f ps < hitN p f (q :: ps) := by
        refine count_lt _ (fun z _ hz => ?_) ?_
        · simp only [decide_eq_true_eq] at hz ⊢
          exact hz.first q
        · have hp' : (0 : Int) < p := by omega
          have hy0 := Int.emod_nonneg (x + (f q.2 - f q.1)) (show (p : Int) ≠ 0 by omega)
          have hy1 := Int.emod_lt_of_pos (x + (f q.2 - f q.1)) hp'
          have hdv : (p : Int) ∣ (x + (f q.2 - f q.1)) - (x + (f q.2 - f q.1)) % p := ⟨(x + (f q.2 - f q.1)) / p, by have := Int.emod_add_mul_ediv (x + (f q.2 - f q.1)) p; omega⟩
          refine ⟨((x + (f q.2 - f q.1)) % p).toNat, by simp; omega, ?_, ?_⟩
          · simp only [decide_eq_false_iff_not, Int.toNat_of_nonneg hy0]
            intro hh
            refine h2 (hh.same ?_)
            have := Int.dvd_neg.2 hdv
            rwa [Int.neg_sub] at this
          · simp only [decide_eq_true_eq, Int.toNat_of_nonneg hy0]
            exact (h1.second q).same hdv
      simp only [List.length_cons]
      omega

theorem hits_all {α : Type} {p : Nat} (hg : Gens p) (hp : 0 < p) (f : α → Int) (ps : List (α × α)) (h : ∀ q ∈ ps, ¬ (p : Int) ∣ f q.2 - f q.1) (hl : p ≤ ps.length + 1) (y : Int) : Hits p f ps y := by
  rcases hitN_ge hg hp f ps h with h | h
  · exact h y
  · have hle : hitN p f ps ≤ p := by have := List.countP_le_length (p := fun (x : Nat) => @decide (Hits p f ps (x : Int)) (Classical.propDecidable _)) (l := List.range p); simpa [hitN] using this
    have heq : (List.range p).countP (fun (x : Nat) => @decide (Hits p f ps (x : Int)) (Classical.propDecidable _)) = (List.range p).length := by
      have : hitN p f ps = p := by omega
      simpa [hitN] using this
    rw [List.countP_eq_length] at heq
    have hp' : (0 : Int) < p := by omega
    have hy0 := Int.emod_nonneg y (show (p : Int) ≠ 0 by omega)
    have hy1 := Int.emod_lt_of_pos y hp'
    have := heq (y % p).toNat (by simp; omega)
    simp only [decide_eq_true_eq, Int.toNat_of_nonneg hy0] at this
    refine this.same ?_
    have hdv : (p : Int) ∣ y - y % p := ⟨y / p, by have := Int.emod_add_mul_ediv y p; omega⟩
    have := Int.dvd_neg.2 hdv
    rwa [Int.neg_sub] at this

theorem pair_perm {α : Type} : ∀ (a b : List α), a.length = b.length → ((a.zip b).flatMap fun q => [q.1, q.2]).Perm (a ++ b)
  | [], [], _ => by simp
  | x :: a, y :: b, h => by
    have := pair_perm a b (by simpa using h)
    simp only [List.zip_cons_cons, List.flatMap_cons, List.cons_append, List.nil_append]
    exact List.Perm.cons _ ((this.cons y).trans List.perm_middle.symm)

/-- The residue of a thing. -/
def resOf {α : Type} (p : Nat) (f : α → Int) (x : α) : Nat := (f x % p).toNat

theorem sum_same {α : Type} {p : Nat} (f : α → Int) (v : Int) : ∀ (l : List α), (∀ x ∈ l, (p : Int) ∣ f x - v) → (p : Int) ∣ (l.map f).sum - l.length * v
  | [], _ => by simp
  | x :: l, h => by
    have h1 := sum_same f v l fun x hx => h x (List.mem_cons_of_mem _ hx)
    have := Int.dvd_add (h x (List.mem_cons_self ..)) h1
    simp only [List.map_cons, List.sum_cons, List.length_cons, Int.natCast_add, Int.add_mul]
    have e : f x - v + ((l.map f).sum - l.length * v) = f x + (l.map f).sum - (l.length * v + ((1 : Nat) : Int) * v) := by omega
    rwa [e] at this

theorem deals_prime {p : Nat} (hg : Gens p) (hp : 1 < p) : Deals p := by
  intro α f l hl
  -- the things by their remainders
  let le : α → α → Bool := fun x y => decide (resOf p f x ≤ resOf p f y)
  obtain ⟨m, rfl⟩ : ∃ m, p = m + 2 := ⟨p - 2, by omega⟩
  have hperm := List.mergeSort_perm l le
  have hpw : (l.mergeSort le).Pairwise fun x y => resOf (m + 2) f x ≤ resOf (m + 2) f y := by
    have := List.pairwise_mergeSort (le := le) (fun a b c h1 h2 => by simp only [le, decide_eq_true_eq] at h1 h2 ⊢; omega) (fun a b => by simp only [le, Bool.or_eq_true, decide_eq_true_eq]; omega) l
    exact this.imp fun h => by simpa [le] using h
  generalize hs : l.mergeSort le = s at hperm hpw
  have hsl : 2 * (m + 2) - 1 ≤ s.length := by have := hperm.length_eq; omega
  have hp' : (0 : Int) < ((m + 2 : Nat) : Int) := by omega
  have hres : ∀ x y, resOf (m + 2) f x = resOf (m + 2) f y ↔ ((m + 2 : Nat) : Int) ∣ f y - f x := by
    intro x y
    have a := Int.emod_nonneg (f x) (show ((m + 2 : Nat) : Int) ≠ 0 by omega)
    have b := Int.emod_nonneg (f y) (show ((m + 2 : Nat) : Int) ≠ 0 by omega)
    rw [Int.dvd_iff_emod_eq_zero, ← Int.emod_eq_emod_iff_emod_sub_eq_zero]
    unfold resOf
    omega
  have hmono : ∀ i j (hi : i < s.length) (hj : j < s.length), i ≤ j → resOf (m + 2) f s[i] ≤ resOf (m + 2) f s[j] := by
    intro i j hi hj hij
    rcases Nat.lt_or_eq_of_le hij with h | rfl
    · exact (List.pairwise_iff_getElem.1 hpw) i j hi hj h
    · exact Nat.le_refl _
  by_cases hc : ∃ i, ∃ h : i + (m + 1) < s.length, resOf (m + 2) f s[i] = resOf (m + 2) f s[i + (m + 1)]
  · obtain ⟨i, hi, he⟩ := hc
    refine ⟨(s.drop i).take (m + 2), s.take i ++ (s.drop i).drop (m + 2), ?_, by simp; omega, ?_⟩
    · refine hperm.symm.trans ?_
      have e1 : s = s.take i ++ ((s.drop i).take (m + 2) ++ (s.drop i).drop (m + 2)) := by rw [List.take_append_drop, List.take_append_drop]
      have e2 : (s.take i ++ ((s.drop i).take (m + 2) ++ (s.drop i).drop (m + 2))).Perm ((s.drop i).take (m + 2) ++ (s.take i ++ (s.drop i).drop (m + 2))) := by
        rw [← List.append_assoc, ← List.append_assoc]
        exact List.perm_append_comm.append_right _
      rw [← e1] at e2
      exact e2
    · have h1 := sum_same (p := m + 2) f (f s[i]) ((s.drop i).take (m + 2)) (by
        intro x hx
        obtain ⟨k, hk, rfl⟩ := List.getElem_of_mem hx
        have hk' : k < m + 2 := by simp at hk; omega
        rw [← hres]
        simp only [List.getElem_take, List.getElem_drop]
        have a := hmono i (i + k) (by omega) (by omega) (by omega)
        have b := hmono (i + k) (i + (m + 1)) (by omega) (by omega) (by omega)
        omega)
      have e : ((s.drop i).take (m + 2)).length = m + 2 := by simp; omega
      rw [e] at h1
      have := Int.dvd_add h1 (Int.dvd_mul_right ((m + 2 : Nat) : Int) (f s[i]))
      rwa [Int.sub_add_cancel] at this
  · -- pairs of things with different remainders, one thing beside them
    have hne : ∀ i (h : i + (m + 1) < s.length), ¬ ((m + 2 : Nat) : Int) ∣ f s[i + (m + 1)] - f s[i] := by
      intro i h hd
      exact hc ⟨i, h, (hres _ _).2 hd⟩
    let a := s.take (m + 1)
    let b := (s.drop (m + 1)).take (m + 1)
    have ha : a.length = m + 1 := by simp [a]; omega
    have hb : b.length = m + 1 := by simp [b]; omega
    have hx : 2 * m + 2 < s.length := by omega
    let c := (a.zip b).map fun q => f q.1
    have hh := hits_all hg (by omega) f (a.zip b) (by
      intro q hq
      obtain ⟨k, hk, rfl⟩ := List.getElem_of_mem hq
      have hk' : k < m + 1 := by simp [ha, hb] at hk; omega
      simp only [List.getElem_zip, a, b, List.getElem_take, List.getElem_drop]
      have := hne k (by omega)
      simpa only [Nat.add_comm (m + 1) k] using this) (by simp [ha, hb]) (- (c.sum + f s[2 * m + 2]))
    obtain ⟨t, r, hpt, htl, hdt⟩ := hh
    refine ⟨s[2 * m + 2] :: t, r ++ s.drop (2 * m + 3), ?_, by simp [htl, ha, hb], ?_⟩
    · refine hperm.symm.trans ?_
      have e1 : s.Perm ((a ++ b) ++ (s[2 * m + 2] :: s.drop (2 * m + 3))) := by
        have : s = (a ++ b) ++ (s[2 * m + 2] :: s.drop (2 * m + 3)) := by
          have h1 : s[2 * m + 2] :: s.drop (2 * m + 3) = s.drop (2 * m + 2) := (List.drop_eq_getElem_cons hx).symm
          have h2 : (s.drop (m + 1)).drop (m + 1) = s.drop (2 * m + 2) := by rw [List.drop_drop]; congr 1; omega
          rw [h1, List.append_assoc, ← h2]
          simp only [a, b]
          rw [List.take_append_drop, List.take_append_drop]
        exact List.Perm.of_eq this
      refine e1.trans ?_
      have e2 := ((pair_perm a b (by omega)).symm.trans hpt).append_right (s[2 * m + 2] :: s.drop (2 * m + 3))
      refine e2.trans ?_
      rw [List.append_assoc]
      simp only [List.cons_append]
      refine (List.Perm.append_left t List.perm_middle).trans ?_
      exact List.perm_middle
    · simp only [List.map_cons, List.sum_cons]
      have e : (t.map f).sum - ((a.zip b).map fun q => f q.1).sum - -(c.sum + f s[2 * m + 2]) = f s[2 * m + 2] + (t.map f).sum := by simp only [c]; omega
      rwa [e] at hdt

theorem deals_small (n : Nat) (h1 : 2 ≤ n) (h2 : n ≤ 20) : Deals n := by
  have d2 : Deals 2 := deals_prime (by decide) (by omega)
  have d3 : Deals 3 := deals_prime (by decide) (by omega)
  have d5 : Deals 5 := deals_prime (by decide +kernel) (by omega)
  have d7 : Deals 7 := deals_prime (by decide +kernel) (by omega)
  have d11 : Deals 11 := deals_prime (by decide +kernel) (by omega)
  have d13 : Deals 13 := deals_prime (by decide +kernel) (by omega)
  have d17 : Deals 17 := deals_prime (by decide +kernel) (by omega)
  have d19 : Deals 19 := deals_prime (by decide +kernel) (by omega)
  have d4 : Deals 4 := d2.mul d2 (by omega)
  have d6 : Deals 6 := d2.mul d3 (by omega)
  have d8 : Deals 8 := d2.mul d4 (by omega)
  have d9 : Deals 9 := d3.mul d3 (by omega)
  have d10 : Deals 10 := d2.mul d5 (by omega)
  have d12 : Deals 12 := d2.mul d6 (by omega)
  have d14 : Deals 14 := d2.mul d7 (by omega)
  have d15 : Deals 15 := d3.mul d5 (by omega)
  have d16 : Deals 16 := d2.mul d8 (by omega)
  have d18 : Deals 18 := d2.mul d9 (by omega)
  have d20 : Deals 20 := d2.mul d10 (by omega)
  obtain rfl | rfl | rfl | rfl | rfl | rfl | rfl | rfl | rfl | rfl | rfl | rfl | rfl | rfl | rfl | rfl | rfl | rfl | rfl : n = 2 ∨ n = 3 ∨ n = 4 ∨ n = 5 ∨ n = 6 ∨ n = 7 ∨ n = 8 ∨ n = 9 ∨ n = 10 ∨ n = 11 ∨ n = 12 ∨ n = 13 ∨ n = 14 ∨ n = 15 ∨ n = 16 ∨ n = 17 ∨ n = 18 ∨ n = 19 ∨ n = 20 := by omega
  all_goals assumption

end Go.Proofs.YtkmpdcckgibkhaaGreat
