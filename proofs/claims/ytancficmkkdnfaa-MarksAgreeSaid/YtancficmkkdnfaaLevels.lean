/-
  The square-free words, length by length. No program.
-/
import Derived.Test.YtancficmkkdnfaaKeep
import Derived.Test.YtancficmkkdnfaaI
namespace Go.Proofs.Ytancficmkkdnfaa

/-- The words with one letter more that do not end with a square. -/
def chl (k : Nat) (l : List UInt8) : List (List UInt8) := (List.range k).flatMap fun c => if endsB (addL l c) then [] else [addL l c]
theorem flatMap_if {α β : Type} (b : Bool) (l : List α) (f : α → List β) : (if b then [] else l).flatMap f = if b then [] else l.flatMap f := by cases b <;> rfl
theorem frW_snoc (k : Nat) : ∀ (m : Nat) (l : List UInt8), frW k (m + 1) l = (frW k m l).flatMap (chl k) := by
  intro m
  induction m with
  | zero => intro l; simp [frW, chl]
  | succ m ih =>
    intro l
    rw [frW, frW, List.flatMap_assoc]
    congr 1
    funext c
    rw [flatMap_if, ih]
theorem frW_len (k : Nat) : ∀ (m : Nat) (l x : List UInt8), x ∈ frW k m l → x.length = l.length + m := by
  intro m
  induction m with
  | zero => intro l x h; simp [frW] at h; simp [h]
  | succ m ih =>
    intro l x h
    rw [frW, List.mem_flatMap] at h
    obtain ⟨c, _, h⟩ := h
    split at h
    · exact absurd h (by simp)
    · have := ih _ _ h; rw [addL_len] at this; omega
theorem letter_of {k : Nat} {b : UInt8} (hb : okk k b = true) : ∃ c, c < k ∧ UInt8.ofNat (97 + c) = b := by
  have := (okk_iff k b).1 hb
  refine ⟨b.toNat - 97, by omega, ?_⟩
  rw [show 97 + (b.toNat - 97) = b.toNat by omega, UInt8.ofNat_toNat]
theorem okk_letter {k c : Nat} (hk : k ≤ 20) (hc : c < k) : okk k (UInt8.ofNat (97 + c)) = true := by
  rw [okk_iff, UInt8.toNat_ofNat']
  rw [Nat.mod_eq_of_lt (by omega)]; omega
theorem mem_frW (k : Nat) (hk : k ≤ 20) : ∀ (m : Nat) (l x : List UInt8), overB k l = true → freeB l = true → (x ∈ frW k m l ↔ ∃ r, r.length = m ∧ x = l ++ r ∧ overB k x = true ∧ freeB x = true) := by
  intro m
  induction m with
  | zero =>
    intro l x h1 h2
    simp only [frW, List.mem_singleton]
    constructor
    · rintro rfl; exact ⟨[], rfl, by simp, h1, h2⟩
    · rintro ⟨r, hr, rfl, _⟩; rw [List.eq_nil_of_length_eq_zero hr]; simp
  | succ m ih =>
    intro l x h1 h2
    rw [frW, List.mem_flatMap]
    constructor
    · rintro ⟨c, hc, h⟩
      rw [List.mem_range] at hc
      split at h
      · exact absurd h (by simp)
      · rename_i he
        have o1 : overB k (addL l c) = true := by rw [addL, overB_append, h1, overB, List.all_cons, okk_letter hk hc]; rfl
        have o2 : freeB (addL l c) = true := by rw [addL, free_snoc, h2]; simp [addL] at he; simp [he]
        obtain ⟨r, hr, rfl, h3, h4⟩ := (ih _ _ o1 o2).1 h
        exact ⟨UInt8.ofNat (97 + c) :: r, by simp [hr], by simp [addL], h3, h4⟩
    · rintro ⟨r, hr, rfl, h3, h4⟩
      cases r with
      | nil => simp at hr
      | cons b r =>
        have hb : okk k b = true := List.all_eq_true.1 h3 b (by simp)
        obtain ⟨c, hc, rfl⟩ := letter_of hb
        refine ⟨c, List.mem_range.2 hc, ?_⟩
        have e : l ++ UInt8.ofNat (97 + c) :: r = addL l c ++ r := by simp [addL]
        have o2 : freeB (addL l c) = true := by
          have := free_take h4 (l.length + 1)
          rwa [e, List.take_left' (addL_len l c)] at this
        have o1 : overB k (addL l c) = true := by rw [addL, overB_append, h1, overB, List.all_cons, hb]; rfl
        have he : endsB (addL l c) = false := by
          rw [addL, free_snoc, Bool.and_eq_true] at o2
          simpa [addL] using o2.2
        rw [he]
        simp only [Bool.false_eq_true, if_false]
        exact (ih _ _ o1 o2).2 ⟨r, by simpa using hr, e, h3, h4⟩
/-- The square-free words of n letters, of three. -/
def lv (n : Nat) : List (List UInt8) := frW 3 n []
theorem mem_lv (n : Nat) (x : List UInt8) : x ∈ lv n ↔ x.length = n ∧ overB 3 x = true ∧ freeB x = true := by
  rw [lv, mem_frW 3 (by omega) n [] x rfl rfl]
  constructor
  · rintro ⟨r, h1, rfl, h2, h3⟩; exact ⟨by simpa using h1, h2, h3⟩
  · rintro ⟨h1, h2, h3⟩; exact ⟨x, h1, rfl, h2, h3⟩
/-- .. of at most N letters, the shorter ones first. -/
def LL (N : Nat) : List (List UInt8) := (List.range (N + 1)).flatMap lv
theorem mem_LL (N : Nat) (x : List UInt8) : x ∈ LL N ↔ x.length ≤ N ∧ overB 3 x = true ∧ freeB x = true := by
  rw [LL, List.mem_flatMap]
  constructor
  · rintro ⟨n, h1, h2⟩
    rw [List.mem_range] at h1
    obtain ⟨h3, h4⟩ := (mem_lv n x).1 h2
    exact ⟨by omega, h4⟩
  · rintro ⟨h1, h2⟩
    exact ⟨x.length, List.mem_range.2 (by omega), (mem_lv _ _).2 ⟨rfl, h2⟩⟩
theorem LL_succ (N : Nat) : LL (N + 1) = LL N ++ lv (N + 1) := by
  rw [LL, List.range_succ, List.flatMap_append]; simp [LL]
theorem LL_prefix (N : Nat) : ∀ k, ∃ r, LL (N + k) = LL N ++ r := by
  intro k
  induction k with
  | zero => exact ⟨[], by simp⟩
  | succ k ih =>
    obtain ⟨r, hr⟩ := ih
    exact ⟨r ++ lv (N + k + 1), by rw [← Nat.add_assoc, LL_succ, hr, List.append_assoc]⟩
/-- The next words, but none of more than N letters. -/
def chB (N : Nat) (s : List UInt8) : List (List UInt8) := if s.length = N then [] else chl 3 s
theorem flatMap_same {α β : Type} {l : List α} {f g : α → List β} (h : ∀ x ∈ l, f x = g x) : l.flatMap f = l.flatMap g := by
  induction l with
  | nil => rfl
  | cons x l ih => rw [List.flatMap_cons, List.flatMap_cons, h x (by simp), ih fun y hy => h y (by simp [hy])]
theorem LL_grow (N : Nat) : ∀ k, k ≤ N → LL k = [] :: (LL k).flatMap (fun s => if s.length < k then chl 3 s else []) := by
  intro k
  induction k with
  | zero => intro _; rfl
  | succ k ih =>
    intro hk
    have h1 : (LL (k + 1)).flatMap (fun s => if s.length < k + 1 then chl 3 s else []) = (LL k).flatMap (fun s => if s.length < k then chl 3 s else []) ++ lv (k + 1) := by
      rw [LL_succ, List.flatMap_append]
      have e2 : (lv (k + 1)).flatMap (fun s => if s.length < k + 1 then chl 3 s else []) = [] := by
        rw [flatMap_same (g := fun _ => []) fun x hx => by rw [if_neg (by have := ((mem_lv _ _).1 hx).1; omega)]]
        induction lv (k + 1) <;> simp_all
      rw [e2, List.append_nil]
      cases k with
      | zero => simp [LL, lv, frW, chl]
      | succ k =>
        rw [LL_succ k, List.flatMap_append, List.flatMap_append]
        have e3 : (lv (k + 1)).flatMap (fun s => if s.length < k + 1 then chl 3 s else []) = [] := by
          rw [flatMap_same (g := fun _ => []) fun x hx => by rw [if_neg (by have := ((mem_lv _ _).1 hx).1; omega)]]
          induction lv (k + 1) <;> simp_all
        have e4 : (lv (k + 1)).flatMap (fun s => if s.length < k + 1 + 1 then chl 3 s else []) = lv (k + 1 + 1) := by
          rw [flatMap_same (g := chl 3) fun x hx => by rw [if_pos (by have := ((mem_lv _ _).1 hx).1; omega)]]
          exact (frW_snoc 3 (k + 1) []).symm
        rw [e3, e4, List.append_nil]
        congr 1
        exact flatMap_same fun x hx => by
          have := ((mem_LL _ _).1 hx).1
          rw [if_pos (by omega), if_pos (by omega)]
    rw [h1]
    conv => lhs; rw [LL_succ, ih (by omega)]
    rfl
theorem LL_self (N : Nat) : LL N = [] :: (LL N).flatMap (chB N) := by
  have := LL_grow N N (Nat.le_refl _)
  rw [flatMap_same (g := chB N) fun x hx => by
    have := ((mem_LL _ _).1 hx).1
    by_cases h : x.length = N
    · rw [if_neg (by omega), chB, if_pos h]
    · rw [if_pos (by omega), chB, if_neg h]] at this
  exact this
theorem chl_len (k : Nat) (l x : List UInt8) (h : x ∈ chl k l) : x.length = l.length + 1 := by
  have : x ∈ frW k 1 l := by rw [frW_snoc]; simpa [frW] using h
  exact frW_len k 1 l x this
/-- Where no word is left to be looked at, all have been. -/
theorem LL_done (N : Nat) (i : Nat) (h : LL N = ([] :: ((LL N).take i).flatMap (chB N)) ++ ((LL N).drop i).flatMap (chB N)) (hi : ([] :: ((LL N).take i).flatMap (chB N)).length = i) : (LL N).drop i = [] := by
  have h1 : (LL N).drop i = ((LL N).drop i).flatMap (chB N) := by
    conv => lhs; rw [h, List.drop_left' hi]
  have : ∀ n, ∀ x ∈ (LL N).drop i, x.length ≠ n := by
    intro n
    induction n with
    | zero =>
      intro x hx he
      rw [h1, List.mem_flatMap] at hx
      obtain ⟨y, _, hy⟩ := hx
      rw [chB] at hy
      split at hy
      · exact absurd hy (by simp)
      · have := chl_len _ _ _ hy; omega
    | succ n ih =>
      intro x hx he
      rw [h1, List.mem_flatMap] at hx
      obtain ⟨y, hy1, hy⟩ := hx
      rw [chB] at hy
      split at hy
      · exact absurd hy (by simp)
      · have := chl_len _ _ _ hy
        exact ih y hy1 (by omega)
  cases hc : (LL N).drop i with
  | nil => rfl
  | cons x r => exact absurd rfl (this x.length x (by rw [hc]; simp))

/-- Is the image not square-free? -/
def badB (m : List (List UInt8)) (x : List UInt8) : Bool := !freeB (imgW m x)
/-- The first square-free word of at most N letters whose image is not square-free. -/
def keepsO (m : List (List UInt8)) (N : Nat) : Option (List UInt8) := (LL N).find? (badB m)
def l0 (m : List (List UInt8)) (i : Nat) : Nat := (m.getD i []).length
def shortN (m : List (List UInt8)) : Nat := min (min (l0 m 0) (l0 m 1)) (l0 m 2)
def longN (m : List (List UInt8)) : Nat := max (max (l0 m 0) (l0 m 1)) (l0 m 2)
def mostN (m : List (List UInt8)) : Nat := max 3 (1 + (longN m + shortN m - 4) / shortN m)
theorem img_range {m : List (List UInt8)} {c : UInt8} (h : okk 3 c = true) : shortN m ≤ (imgL m c).length ∧ (imgL m c).length ≤ longN m := by
  have := (okk_iff 3 c).1 h
  unfold imgL shortN longN l0
  rcases (show c.toNat - 97 = 0 ∨ c.toNat - 97 = 1 ∨ c.toNat - 97 = 2 by omega) with e | e | e <;> rw [e] <;> omega
theorem range_map {m : List (List UInt8)} (hm : mapB m = true) : 1 ≤ shortN m ∧ shortN m ≤ longN m ∧ longN m ≤ 12 := by
  obtain ⟨-, h⟩ := map_len hm
  obtain ⟨a, -, a1, a2, a3, -⟩ := h 0 (by omega)
  obtain ⟨b, -, b1, b2, b3, -⟩ := h 1 (by omega)
  obtain ⟨c, -, c1, c2, c3, -⟩ := h 2 (by omega)
  unfold shortN longN l0
  rw [a1, b1, c1]; omega
theorem most_le {m : List (List UInt8)} (hm : mapB m = true) : 3 ≤ mostN m ∧ mostN m ≤ 10 := by
  obtain ⟨h1, h2, h3⟩ := range_map hm
  have : (longN m + shortN m - 4) / shortN m < 10 := by
    rw [Nat.div_lt_iff_lt_mul (by omega)]; omega
  unfold mostN; omega
/-- **If all short words are kept square-free, all are.** -/
theorem keep_all (m : List (List UInt8)) (hm : mapB m = true) (H : ∀ y, overB 3 y = true → freeB y = true → y.length ≤ mostN m → freeB (imgW m y) = true) :
    ∀ (n : Nat) (x : List UInt8), x.length ≤ n → overB 3 x = true → freeB x = true → freeB (imgW m x) = true := by
  intro n
  induction n with
  | zero => intro x h1 h2 h3; exact H x h2 h3 (by omega)
  | succ n ih =>
    intro x h1 h2 h3
    cases hb : freeB (imgW m x) with
    | true => rfl
    | false =>
      obtain ⟨r1, r2, r3⟩ := range_map hm
      have := keep_test m hm x h2 h3 hb fun y a b c => ih y (by omega) a b
      have hle : x.length ≤ mostN m := by
        rcases this with h | ⟨c, hc, h⟩
        · have := (most_le hm).1; omega
        · have h4 := h (shortN m) fun e he => (img_range (List.all_eq_true.1 h2 e he)).1
          have h5 := (img_range (m := m) (List.all_eq_true.1 h2 c hc)).2
          rcases Nat.lt_or_ge x.length 4 with h6 | h6
          · have := (most_le hm).1; omega
          · have : x.length - 1 ≤ (longN m + shortN m - 4) / shortN m := by
              rw [Nat.le_div_iff_mul_le (by omega), show x.length - 1 = x.length - 2 + 1 by omega, Nat.add_mul]; omega
            unfold mostN; omega
      rw [H x h2 h3 hle] at hb
      exact nomatch hb
theorem keeps_none {m : List (List UInt8)} (hm : mapB m = true) (h : keepsO m (mostN m) = none) (x : List UInt8) (h2 : overB 3 x = true) (h3 : freeB x = true) : freeB (imgW m x) = true := by
  refine keep_all m hm (fun y a b c => ?_) x.length x (Nat.le_refl _) h2 h3
  rw [keepsO, List.find?_eq_none] at h
  have := h y ((mem_LL _ _).2 ⟨c, a, b⟩)
  simpa [badB] using this
/-- The reference looks at more words, and finds the same. -/
theorem keeps_same {m : List (List UInt8)} (hm : mapB m = true) : keepsO m 11 = keepsO m (mostN m) := by
  obtain ⟨r, hr⟩ := LL_prefix (mostN m) (11 - mostN m)
  have := (most_le hm).2
  rw [show mostN m + (11 - mostN m) = 11 by omega] at hr
  cases hk : keepsO m (mostN m) with
  | some x =>
    rw [keepsO] at hk
    rw [keepsO, hr, List.find?_append, hk]; rfl
  | none =>
    rw [keepsO, List.find?_eq_none]
    intro x hx
    have := (mem_LL _ _).1 hx
    have := keeps_none hm hk x this.2.1 this.2.2
    simp [badB, this]
theorem keeps_some {m : List (List UInt8)} {N : Nat} {x : List UInt8} (h : keepsO m N = some x) : x.length ≤ N ∧ overB 3 x = true ∧ freeB x = true ∧ freeB (imgW m x) = false := by
  have h1 := (mem_LL _ _).1 (List.mem_of_find?_eq_some h)
  have h2 := List.find?_some h
  exact ⟨h1.1, h1.2.1, h1.2.2, by simpa [badB] using h2⟩
end Go.Proofs.Ytancficmkkdnfaa
