/-
  Halves and cuts: the plain law. No walk.
-/
import Derived.Test.YthelnggbcgjbcaaHalvesP
import Derived.Test.YthelnggbcgjbcaaWaysM
import Derived.Test.YthelnggbcgjbcaaFacts
namespace Go.Proofs.Ythelnggbcgjbcaa

theorem sumTo_single (f : Nat → Nat) (c a d : Nat) (h : ∀ k, k ≠ c → f k = 0) : sumTo f a d = if a ≤ c ∧ c < a + d then f c else 0 := by
  induction d with
  | zero => rw [sumTo, if_neg (by omega)]
  | succ d ih =>
    rw [sumTo, ih]
    by_cases h1 : a + d = c
    · rw [if_neg (by omega), if_pos (by omega), h1]; omega
    · rw [h _ h1]
      by_cases h2 : a ≤ c ∧ c < a + d
      · rw [if_pos h2, if_pos (by omega), Nat.add_zero]
      · rw [if_neg h2, if_neg (by omega)]
theorem sumTo_zero (f : Nat → Nat) (a d : Nat) (h : ∀ k, a ≤ k → k < a + d → f k = 0) : sumTo f a d = 0 := by
  induction d with
  | zero => rfl
  | succ d ih => rw [sumTo, ih fun k h1 h2 => h k h1 (by omega), h _ (by omega) (by omega)]
theorem sumTo_split (f : Nat → Nat) (a d e : Nat) : sumTo f a (d + e) = sumTo f a d + sumTo f (a + d) e := by
  induction e with
  | zero => rfl
  | succ e ih => rw [← Nat.add_assoc, sumTo, ih, sumTo, Nat.add_assoc, show a + (d + e) = a + d + e by omega]
def win (l : List UInt8) (p n : Nat) : List UInt8 := (l.drop p).take n
def one01 (b : Bool) : Nat := if b then 1 else 0
theorem halfK_sum (l : List UInt8) (n m : Nat) : halfK l n m = sumTo (fun p => one01 (isHalf l (win l p n))) 0 m := by
  induction m with
  | zero => rfl
  | succ m ih => rw [halfK_succ, sumTo, ih, Nat.zero_add]; rfl
theorem isHalf_len (l p : List UInt8) (hok : l.all okb = true) (hev : evenB l = true) (hp : p.all okb = true) (h : isHalf l p = true) : p.length = l.length / 2 := by
  have h1 := cn_total l hok
  have h2 := cn_total p hp
  simp only [isHalf, Bool.and_eq_true, beq_iff_eq] at h
  simp only [evenB, Bool.and_eq_true, beq_iff_eq] at hev
  omega
theorem win_ok (l : List UInt8) (p n : Nat) (hok : l.all okb = true) : (win l p n).all okb = true := by
  rw [List.all_eq_true] at hok ⊢
  exact fun x hx => hok x (List.mem_of_mem_drop (List.mem_of_mem_take hx))
theorem win_len (l : List UInt8) (p n : Nat) (h : p + n ≤ l.length) : (win l p n).length = n := by
  unfold win; rw [List.length_take, List.length_drop]; omega
theorem halfN_zero (l : List UInt8) (n : Nat) (hok : l.all okb = true) (hev : evenB l = true) (hn : n ≠ l.length / 2) (hnl : n ≤ l.length) : halfN l n = 0 := by
  rw [halfN, halfK_sum]
  refine sumTo_zero _ _ _ fun k _ h2 => ?_
  unfold one01
  rw [if_neg]
  intro h
  have := isHalf_len l _ hok hev (win_ok l k n hok) h
  rw [win_len l k n (by omega)] at this
  exact hn this
theorem cn_split (l : List UInt8) (a : Nat) (j : Nat) : cn (l.take a) j + cn (l.drop a) j = cn l j := by
  rw [← cn_append, List.take_append_drop]
theorem same_half (l a b : List UInt8) (hev : evenB l = true) (h : ∀ j, j < 4 → cn a j + cn b j = cn l j) : sameB a b = isHalf l b := by
  have h0 := h 0 (by omega)
  have h1 := h 1 (by omega)
  have h2 := h 2 (by omega)
  have h3 := h 3 (by omega)
  simp only [evenB, Bool.and_eq_true, beq_iff_eq] at hev
  rw [Bool.eq_iff_iff]
  simp only [sameB, isHalf, Bool.and_eq_true, beq_iff_eq]
  omega
theorem same_comm (a b : List UInt8) : sameB a b = sameB b a := by
  rw [Bool.eq_iff_iff]
  simp only [sameB, Bool.and_eq_true, beq_iff_eq]
  omega
theorem fair_one (l : List UInt8) (k : Nat) (hev : evenB l = true) : fairB l [(k : Int)] = isHalf l (win l 0 k) ∧ fairB l [(k : Int)] = isHalf l (l.drop k) := by
  have e : fairB l [(k : Int)] = sameB (l.take k) (l.drop k) := by simp [fairB, shareGo]
  rw [e]
  have hs := fun j => cn_split l k j
  constructor
  · rw [same_comm]
    exact same_half l _ _ hev fun j _ => by
      show cn (l.drop k) j + cn ((l.drop 0).take k) j = cn l j
      rw [List.drop_zero, Nat.add_comm]; exact hs j
  · exact same_half l _ _ hev fun j _ => hs j
theorem fair_two (l : List UInt8) (a b : Nat) (h : a ≤ b) (hev : evenB l = true) : fairB l [(a : Int), (b : Int)] = isHalf l (win l a (b - a)) := by
  have e : fairB l [(a : Int), (b : Int)] = sameB (l.take a ++ l.drop b) (win l a (b - a)) := by simp [fairB, shareGo, win]
  rw [e]
  refine same_half l _ _ hev fun j _ => ?_
  have h1 := cn_split l a j
  have h2 := cn_split (l.drop a) (b - a) j
  rw [List.drop_drop, show a + (b - a) = b by omega] at h2
  rw [cn_append, win]; omega
theorem ways_one (l : List UInt8) : waysN l [] 1 1 = sumTo (fun k => one01 (fairB l [(k : Int)])) 1 (l.length - 1) := by
  unfold waysN
  simp only [List.nil_append, List.map_id']
  rw [lsts_cons]
  refine sumTo_congr _ _ fun k _ _ => ?_
  simp [lsts, one01, List.countP_cons]
theorem ways_two (l : List UInt8) : waysN l [] 2 1 = sumTo (fun a => sumTo (fun b => one01 (fairB l [(a : Int), (b : Int)])) (a + 1) (l.length - (a + 1))) 1 (l.length - 1) := by
  unfold waysN
  simp only [List.nil_append, List.map_id']
  rw [lsts_cons]
  refine sumTo_congr _ _ fun a h1 h2 => ?_
  rw [show 1 + (l.length - 1) - (a + 1) = l.length - (a + 1) by omega, lsts_cons]
  refine sumTo_congr _ _ fun b _ _ => ?_
  simp [lsts, one01, List.countP_cons]
/-- Halves of a chain, and cuts. -/
theorem halves_cuts (l : List UInt8) (hok : l.all okb = true) (hev : evenB l = true) (hne : 0 < l.length) : halfN l (l.length / 2) = waysN l [] 2 1 + 2 * waysN l [] 1 1 := by
  have hN : l.length % 2 = 0 := by
    have h1 := cn_total l hok
    simp only [evenB, Bool.and_eq_true, beq_iff_eq] at hev
    omega
  obtain ⟨h, hh⟩ : ∃ h, h = l.length / 2 := ⟨_, rfl⟩
  have hl : l.length = h + h := by omega
  have hpos : 0 < h := by omega
  -- one cut
  have h1 : waysN l [] 1 1 = one01 (isHalf l (win l 0 h)) := by
    rw [ways_one, sumTo_single _ h, if_pos (by omega), (fair_one l h hev).1]
    intro k hk
    unfold one01
    rw [if_neg]
    intro hf
    rw [(fair_one l k hev).1] at hf
    by_cases hkl : k ≤ l.length
    · have := isHalf_len l _ hok hev (win_ok l 0 k hok) hf
      rw [win_len l 0 k (by omega)] at this
      omega
    · have := isHalf_len l _ hok hev (win_ok l 0 k hok) hf
      rw [win, List.drop_zero, List.take_of_length_le (by omega)] at this
      omega
  -- two cuts
  have h2 : waysN l [] 2 1 = sumTo (fun a => one01 (isHalf l (win l a h))) 1 (h - 1) := by
    rw [ways_two, show l.length - 1 = (h - 1) + h by omega, sumTo_split, sumTo_zero _ (1 + (h - 1)) h, Nat.add_zero]
    · refine sumTo_congr _ _ fun a ha1 ha2 => ?_
      rw [sumTo_single _ (a + h), if_pos (by omega), fair_two l a (a + h) (by omega) hev, show a + h - a = h by omega]
      intro b hb
      unfold one01
      rw [if_neg]
      intro hf
      by_cases hab : a ≤ b
      · rw [fair_two l a b hab hev] at hf
        have := isHalf_len l _ hok hev (win_ok l a (b - a) hok) hf
        by_cases hbl : b ≤ l.length
        · rw [win_len l a (b - a) (by omega)] at this; omega
        · rw [win, List.take_of_length_le (by rw [List.length_drop]; omega), List.length_drop] at this; omega
      · have e : fairB l [(a : Int), (b : Int)] = sameB (l.take a ++ l.drop b) [] := by simp [fairB, shareGo, show b - a = 0 by omega]
        rw [e] at hf
        have h0 := cn_total l hok
        have q : ∀ j, cn (l.take a) j + cn (l.drop a) j = cn l j := fun j => cn_split l a j
        simp only [sameB, Bool.and_eq_true, beq_iff_eq, cn_append] at hf
        have z : ∀ j, cn ([] : List UInt8) j = 0 := fun _ => rfl
        rw [z, z, z, z] at hf
        have ht : ((l.take a).all okb) = true := by
          have := win_ok l 0 a hok; rwa [win, List.drop_zero] at this
        have := cn_total (l.take a) ht
        rw [List.length_take] at this
        omega
    · intro a ha1 ha2
      refine sumTo_zero _ _ _ fun b hb1 hb2 => ?_
      unfold one01
      rw [if_neg]
      intro hf
      rw [fair_two l a b (by omega) hev] at hf
      have := isHalf_len l _ hok hev (win_ok l a (b - a) hok) hf
      rw [win_len l a (b - a) (by omega)] at this
      omega
  rw [h1, h2, ← hh, halfN, show l.length - h + 1 = (h - 1) + 1 + 1 by omega, halfK_sum, sumTo, sumTo_head]
  have e : one01 (isHalf l (win l (0 + (h - 1 + 1)) h)) = one01 (isHalf l (win l 0 h)) := by
    rw [show 0 + (h - 1 + 1) = h by omega]
    have := fair_one l h hev
    rw [← this.1, this.2, win, List.take_of_length_le (by rw [List.length_drop]; omega)]
  have e2 : sumTo (fun p => one01 (isHalf l (win l p h))) (0 + 1) (h - 1) = sumTo (fun a => one01 (isHalf l (win l a h))) 1 (h - 1) := rfl
  rw [e2, e]
  omega
theorem halves_sum (l : List UInt8) (hok : l.all okb = true) (hev : evenB l = true) : ∀ k, k ≤ l.length + 1 → sumTo (fun n => halfN l n) 0 k = if l.length / 2 < k then halfN l (l.length / 2) else 0 := by
  intro k hk
  induction k with
  | zero => rfl
  | succ k ih =>
    rw [sumTo, ih (by omega), Nat.zero_add]
    by_cases h : k = l.length / 2
    · rw [if_neg (by omega), if_pos (by omega), ← h]; omega
    · rw [halfN_zero l k hok hev h (by omega)]
      by_cases h2 : l.length / 2 < k
      · rw [if_pos h2, if_pos (by omega), Nat.add_zero]
      · rw [if_neg h2, if_neg (by omega)]
theorem halfN_le (l : List UInt8) (n : Nat) : halfN l n ≤ l.length + 1 := by
  rw [halfN]; have := halfK_le l n (l.length - n + 1); omega
end Go.Proofs.Ythelnggbcgjbcaa
