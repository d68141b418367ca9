/-
  Plain laws of TopHalved and TopSquares: no program.
-/
import Derived.Test.YtkmpdcckgibkhaaGreatXe
namespace Go.Proofs.YtkmpdcckgibkhaaGreat
open Go.RowKit Mk

theorem per_min (l : List UInt8) (n p : Nat) (h : IsP l n p) : per l n ≤ p := by
  have h2 := h.2.1
  have := brd_max l n _ ((isP_iff l n p h2).1 h)
  unfold per; omega
theorem sameB_refl (a : List UInt8) : sameB a a = true := by simp [sameB]
theorem over_ok (l : List UInt8) (h : overB 4 l = true) : l.all okb = true := by
  rw [overB, List.all_eq_true] at h
  rw [List.all_eq_true]
  intro c hc
  have := (okk_iff 4 c).1 (h c hc)
  simp [okb]; omega
theorem cn_sum (l : List UInt8) (h : l.all okb = true) : cn l 0 + cn l 1 + cn l 2 + cn l 3 = l.length := by
  induction l with
  | nil => rfl
  | cons c r ih =>
    rw [List.all_cons, Bool.and_eq_true] at h
    have ih := ih h.2
    have hc : 97 ≤ c.toNat ∧ c.toNat ≤ 100 := by simpa [okb] using h.1
    have hs : ∀ j, cn (c :: r) j = cn r j + if c.toNat = 97 + j then 1 else 0 := by
      intro j
      unfold cn
      rw [List.countP_cons]
      by_cases h : c.toNat = 97 + j <;> simp [h]
    rw [hs 0, hs 1, hs 2, hs 3, List.length_cons]
    have : c.toNat = 97 ∨ c.toNat = 98 ∨ c.toNat = 99 ∨ c.toNat = 100 := by omega
    rcases this with h | h | h | h <;> simp [h] <;> omega
theorem sameB_eq (a b : List UInt8) : sameB a b = true ↔ cn a 0 = cn b 0 ∧ cn a 1 = cn b 1 ∧ cn a 2 = cn b 2 ∧ cn a 3 = cn b 3 := by
  simp [sameB, and_assoc]
theorem sameB_len (a b : List UInt8) (ha : a.all okb = true) (hb : b.all okb = true) (h : sameB a b = true) : a.length = b.length := by
  have := (sameB_eq a b).1 h
  rw [← cn_sum a ha, ← cn_sum b hb]
  omega
theorem all_take (l : List UInt8) (n : Nat) (h : l.all okb = true) : (l.take n).all okb = true := by
  rw [List.all_eq_true] at h ⊢
  exact fun x hx => h x (List.mem_of_mem_take hx)
theorem all_drop (l : List UInt8) (n : Nat) (h : l.all okb = true) : (l.drop n).all okb = true := by
  rw [List.all_eq_true] at h ⊢
  exact fun x hx => h x (List.mem_of_mem_drop hx)
theorem abI_some (d : List UInt8) (q : Nat) : ∀ (n p : Nat), d.length + 1 - p ≤ n → abI d p = some q → p ≤ q ∧ 2 * q ≤ d.length ∧ sameB (d.take q) ((d.drop q).take q) = true := by
  intro n
  induction n with
  | zero => intro p hn h; rw [abI_end d p (by omega)] at h; cases h
  | succ n ih =>
    intro p hn h
    by_cases h2 : 2 * p ≤ d.length
    · cases hs : sameB (d.take p) ((d.drop p).take p) with
      | true =>
        rw [abI_yes d p h2 hs] at h
        cases h
        exact ⟨Nat.le_refl _, h2, hs⟩
      | false =>
        rw [abI_no d p h2 hs] at h
        have := ih (p + 1) (by omega) h
        exact ⟨by omega, this.2⟩
    · rw [abI_end d p (by omega)] at h; cases h
theorem abI_find (d : List UInt8) (q : Nat) (hq : 2 * q ≤ d.length) (h : sameB (d.take q) ((d.drop q).take q) = true) : ∀ (n p : Nat), q - p ≤ n → p ≤ q → ∃ r, abI d p = some r ∧ r ≤ q := by
  intro n
  induction n with
  | zero =>
    intro p hn hp
    have : p = q := by omega
    subst this
    exact ⟨p, abI_yes d p hq h, Nat.le_refl _⟩
  | succ n ih =>
    intro p hn hp
    cases hs : sameB (d.take p) ((d.drop p).take p) with
    | true => exact ⟨p, abI_yes d p (by omega) hs, hp⟩
    | false =>
      have hne : p ≠ q := fun e => by subst e; rw [h] at hs; cases hs
      rw [abI_no d p (by omega) hs]
      exact ih (p + 1) (by omega) (by omega)
theorem abO_spec : ∀ (l : List UInt8) (k i p : Nat), abO l k = some (i, p) → ∃ j, i = k + j ∧ abI (l.drop j) 1 = some p := by
  intro l
  induction l with
  | nil => intro k i p h; cases h
  | cons c l ih =>
    intro k i p h
    rw [abO] at h
    cases hI : abI (c :: l) 1 with
    | some q =>
      rw [hI] at h
      cases h
      exact ⟨0, rfl, hI⟩
    | none =>
      rw [hI] at h
      obtain ⟨j, h1, h2⟩ := ih (k + 1) i p h
      exact ⟨j + 1, by omega, h2⟩
theorem share_one (l : List UInt8) (c : Nat) : fairB l [(c : Int)] = sameB (l.take c) (l.drop c) := by
  simp [fairB, shareGo]
theorem even_half (l : List UInt8) (p : Nat) (h : sameB (l.take p) (l.drop p) = true) : evenB l = true := by
  have hs := (sameB_eq _ _).1 h
  have hc : ∀ j, cn l j = cn (l.take p) j + cn (l.drop p) j := fun j => by
    conv => lhs; rw [← List.take_append_drop p l]
    exact List.countP_append
  simp only [evenB, hc 0, hc 1, hc 2, hc 3, Bool.and_eq_true, beq_iff_eq]
  omega
/-- An abelian square is divided fairly by a cut in its middle. -/
theorem ab_check (l : List UInt8) (i p : Nat) (hok : l.all okb = true) (hl : l.length ≤ 24) (h : ab l = some (i, p)) : 1 ≤ p ∧ i + 2 * p ≤ l.length ∧ checkE ((l.drop i).take (2 * p)) [(p : Int)] = 0 := by
  obtain ⟨j, rfl, h1⟩ := abO_spec l 0 i p h
  rw [Nat.zero_add]
  obtain ⟨h2, h3, h4⟩ := abI_some (l.drop j) p _ 1 (Nat.le_refl _) h1
  rw [List.length_drop] at h3
  have hlen : ((l.drop j).take (2 * p)).length = 2 * p := by rw [List.length_take, List.length_drop]; omega
  have ht : ((l.drop j).take (2 * p)).take p = (l.drop j).take p := by rw [List.take_take]; congr 1; omega
  have hd : ((l.drop j).take (2 * p)).drop p = ((l.drop j).drop p).take p := by rw [List.drop_take]; congr 1; omega
  have hs : sameB (((l.drop j).take (2 * p)).take p) (((l.drop j).take (2 * p)).drop p) = true := by rw [ht, hd]; exact h4
  refine ⟨h2, by omega, ?_⟩
  have he : evenChainB ((l.drop j).take (2 * p)) = true := by
    rw [evenChainB, even_half _ p hs, chainB, all_take _ _ (all_drop _ _ hok), hlen]
    simp; omega
  have hcut : cutsB (((l.drop j).take (2 * p)).length : Int) 1 [(p : Int)] = true := by
    rw [hlen]; simp [cutsB]; omega
  rw [checkE, he, hcut, share_one, hs]
  rfl
/-- A chain that is divided fairly in its middle begins with an abelian square. -/
theorem check_ab (l : List UInt8) (m : Nat) (hm : l.length = 2 * m) (h1 : 1 ≤ m) (h : checkE l [(m : Int)] = 0) : ∃ p, ab l = some (0, p) ∧ p ≤ m := by
  have hf : sameB (l.take m) (l.drop m) = true := by
    rw [checkE, share_one] at h
    cases hs : sameB (l.take m) (l.drop m) with
    | true => rfl
    | false =>
      rw [hs] at h
      exfalso
      revert h
      cases evenChainB l && cutsB (l.length : Int) 1 [(m : Int)] <;> simp
  have hd : (l.drop m).take m = l.drop m := List.take_of_length_le (by rw [List.length_drop]; omega)
  obtain ⟨r, hr, hrm⟩ := abI_find l m (by omega) (by rw [hd]; exact hf) (m - 1) 1 (Nat.le_refl _) h1
  exact ⟨r, abO_some l 0 r hr, hrm⟩

theorem sqI_find (d : List UInt8) (q : Nat) (hq : 2 * q ≤ d.length) (h : d.take q = (d.drop q).take q) : ∀ (n p : Nat), q - p ≤ n → p ≤ q → ∃ r, sqI d p = some r ∧ p ≤ r ∧ r ≤ q := by
  intro n
  induction n with
  | zero =>
    intro p hn hp
    have : p = q := by omega
    subst this
    exact ⟨p, sqI_yes d p hq h, Nat.le_refl _, Nat.le_refl _⟩
  | succ n ih =>
    intro p hn hp
    by_cases hs : d.take p = (d.drop p).take p
    · exact ⟨p, sqI_yes d p (by omega) hs, Nat.le_refl _, hp⟩
    · have hne : p ≠ q := fun e => by subst e; exact hs h
      rw [sqI_no d p (by omega) hs]
      obtain ⟨r, r1, r2, r3⟩ := ih (p + 1) (by omega) (by omega)
      exact ⟨r, r1, by omega, r3⟩
theorem sq_sq (v : List UInt8) (hv : 0 < v.length) : ∃ p, sq (v ++ v) = some (0, p) ∧ 1 ≤ p ∧ p ≤ v.length := by
  obtain ⟨r, r1, r2, r3⟩ := sqI_find (v ++ v) v.length (by simp; omega) (by simp) (v.length - 1) 1 (Nat.le_refl _) hv
  exact ⟨r, sqO_some (v ++ v) 0 r r1, r2, r3⟩
theorem per_sq (v : List UInt8) (hv : 0 < v.length) : 1 ≤ per (v ++ v) (v ++ v).length ∧ per (v ++ v) (v ++ v).length ≤ v.length := by
  refine ⟨(per_is _ _ (by simp; omega)).1, per_min _ _ _ ⟨hv, by simp, fun i hi => ?_⟩⟩
  rw [List.length_append] at hi
  rw [List.getElem?_append_right (by omega), List.getElem?_append_left (by omega)]
  congr 1; omega
theorem srch_half (v : List UInt8) (hok : v.all okb = true) (hv : 0 < v.length) : ∀ (n f : Nat), v.length - f ≤ n → 1 ≤ f → f ≤ v.length → srch false (v ++ v) [] 1 f = some [(v.length : Int)] := by
  have hall : (v ++ v).all okb = true := by rw [List.all_append, hok]; rfl
  have htest : ∀ c : Nat, testB false (v ++ v) [(c : Int)] = sameB ((v ++ v).take c) ((v ++ v).drop c) := fun c => by
    show fairB (v ++ v) [(c : Int)] = _
    exact share_one _ _
  intro n
  induction n with
  | zero =>
    intro f hn h1 h2
    have : f = v.length := by omega
    subst this
    rw [srch_step _ _ _ _ _ (by simp; omega), srch_zero, List.nil_append, htest]
    simp [sameB_refl]
  | succ n ih =>
    intro f hn h1 h2
    by_cases hf : f = v.length
    · subst hf
      rw [srch_step _ _ _ _ _ (by simp; omega), srch_zero, List.nil_append, htest]
      simp [sameB_refl]
    · have hno : sameB ((v ++ v).take f) ((v ++ v).drop f) = false := by
        rw [Bool.eq_false_iff]
        intro h
        have := sameB_len _ _ (all_take _ _ hall) (all_drop _ _ hall) h
        rw [List.length_take, List.length_drop, List.length_append] at this
        omega
      rw [srch_step _ _ _ _ _ (by simp; omega), srch_zero, List.nil_append, htest, hno]
      simpa using ih (f + 1) (by omega) (by omega) (by omega)
theorem least_sq (v : List UInt8) (hok : v.all okb = true) (hv : 0 < v.length) (hl : v.length ≤ 12) : leastC (v ++ v) = [(v.length : Int)] ∧ leastE (v ++ v) = 0 := by
  have hall : (v ++ v).all okb = true := by rw [List.all_append, hok]; rfl
  have hev : evenChainB (v ++ v) = true := by
    rw [evenChainB, even_half (v ++ v) v.length (by simp [sameB_refl]), chainB, hall]
    simp; omega
  refine ⟨?_, by rw [leastE, if_pos hev]⟩
  have hsum := cn_sum (v ++ v) hall
  have hk : 1 ≤ kindsN (v ++ v) := by
    unfold kindsN
    rw [List.length_append] at hsum
    omega
  obtain ⟨K, hK⟩ : ∃ K, kindsN (v ++ v) = K + 1 := ⟨kindsN (v ++ v) - 1, by omega⟩
  have hz : firstB false (v ++ v) 0 = none := by
    rw [firstB_srch, srch_zero]
    have : testB false (v ++ v) [] = false := by
      show fairB (v ++ v) [] = false
      rw [Bool.eq_false_iff]
      intro h
      have h2 : sameB (v ++ v) [] = true := by simpa [fairB, shareGo] using h
      have := sameB_len _ _ hall rfl h2
      rw [List.length_append, List.length_nil] at this
      omega
    rw [this]; rfl
  have ho : firstB false (v ++ v) 1 = some [(v.length : Int)] := by
    rw [firstB_srch]
    exact srch_half v hok hv v.length 1 (by omega) (Nat.le_refl _) hv
  rw [leastC, if_pos hev, hK, List.range_succ_eq_map, tryN, hz, List.range_succ_eq_map, List.map_cons, tryN]
  simp [ho]
theorem half_frac (S P : Nat) (hP : 0 < P) (h : 2 * P ≤ S) : 2 * (P / Nat.gcd S P) ≤ S / Nat.gcd S P := by
  obtain ⟨c, hc⟩ := Nat.gcd_dvd_left S P
  obtain ⟨d, hd⟩ := Nat.gcd_dvd_right S P
  have hg : 0 < Nat.gcd S P := Nat.gcd_pos_of_pos_right _ hP
  have e1 : S / Nat.gcd S P = c := by
    conv => lhs; lhs; rw [hc]
    exact Nat.mul_div_cancel_left _ hg
  have e2 : P / Nat.gcd S P = d := by
    conv => lhs; lhs; rw [hd]
    exact Nat.mul_div_cancel_left _ hg
  rw [e1, e2]
  generalize Nat.gcd S P = G at *
  subst hc hd
  refine Nat.le_of_mul_le_mul_left (c := G) ?_ hg
  calc G * (2 * d) = 2 * (G * d) := Nat.mul_left_comm _ _ _
    _ ≤ G * c := h

theorem tame_over (most k : Nat) (l : List UInt8) (hk : 1 ≤ k) (hk2 : k ≤ 20) : overB k (tameL most k l) = true := by
  rw [overB, List.all_eq_true]
  intro x hx
  obtain ⟨c, _, rfl⟩ := List.mem_map.1 hx
  rw [okk_iff, tamC_nat k c hk hk2]
  have := Nat.mod_lt c.toNat (show k > 0 by omega)
  omega
theorem tame_len (most k : Nat) (l : List UInt8) : (tameL most k l).length ≤ most := by
  rw [tameL, List.length_map, List.length_take]; omega

end Go.Proofs.YtkmpdcckgibkhaaGreat
