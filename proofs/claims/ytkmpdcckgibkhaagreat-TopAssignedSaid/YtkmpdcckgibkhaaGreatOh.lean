/-
  The plain law of TopAssigned: the orders that fit are the choices, in their order. No program.
-/
import Derived.Test.YtkmpdcckgibkhaaGreatOf
import Derived.Test.YtkmpdcckgibkhaaGreatOc
namespace Go.Proofs.YtkmpdcckgibkhaaGreat
open Go.RowKit

/-- The lists of m different numbers out of some. -/
def prm : List Nat → Nat → List (List Nat)
  | _, 0 => [[]]
  | left, m + 1 => left.flatMap fun c => (prm (left.erase c) m).map (c :: ·)
/-- The columns of an order. -/
def colN (n k : Nat) : List Nat := (ordL n k).map fun x => (x - 1).toNat
theorem ord_all : ∀ n, n < 6 → (List.range (facN n)).map (colN n) = prm (List.range n) n := by decide +kernel
theorem ord_in : ∀ n, n < 6 → ∀ k, k < facN n → ∀ x ∈ ordL n k, 1 ≤ x ∧ x ≤ n := by decide +kernel

/-- Each row allows its column. -/
def fitR : List (List Int) → List Nat → Bool
  | r :: rest, c :: cs => decide (0 < r.getD c 0) && fitR rest cs
  | _, _ => true
def freeL (N u : Nat) : List Nat := (List.range N).filter fun c => !u.testBit c

theorem freeL_erase (N u c : Nat) (hc : c ∈ freeL N u) : (freeL N u).erase c = freeL N (u ||| 2 ^ c) := by
  have hn : (freeL N u).Nodup := (List.nodup_range).filter _
  rw [hn.erase_eq_filter]
  unfold freeL
  rw [List.filter_filter]
  apply List.filter_congr
  intro x _
  rw [Nat.testBit_or, Nat.testBit_two_pow]
  by_cases h : x = c
  · subst h; simp
  · have h2 : ¬ c = x := fun e => h e.symm
    simp [h, h2]
theorem colL_flat (F : Nat → List (List Nat)) (u : Nat) : ∀ (r : List Int) (c : Nat), colL F u r c = (List.range r.length).flatMap fun i => if 0 < r.getD i 0 ∧ u.testBit (c + i) = false then (F (u ||| 2 ^ (c + i))).map ((c + i) :: ·) else [] := by
  intro r
  induction r with
  | nil => intro c; rfl
  | cons x r ih =>
    intro c
    rw [colL, ih, List.length_cons, List.range_succ_eq_map, List.flatMap_cons, List.flatMap_map]
    congr 1
    congr 1
    funext i
    simp only [List.getD_cons_succ, show c + 1 + i = c + Nat.succ i by omega]

theorem filter_flat {α β : Type} (p : α → Bool) (f : α → List β) : ∀ l : List α, (l.filter p).flatMap f = l.flatMap fun x => if p x then f x else [] := by
  intro l
  induction l with
  | nil => rfl
  | cons x l ih =>
    rw [List.filter_cons, List.flatMap_cons]
    cases h : p x with
    | true => simp [ih]
    | false => simp [ih]
theorem flat_filter {α β : Type} (q : β → Bool) (f : α → List β) : ∀ l : List α, (l.flatMap f).filter q = l.flatMap fun x => (f x).filter q := by
  intro l
  induction l with
  | nil => rfl
  | cons x l ih => rw [List.flatMap_cons, List.flatMap_cons, List.filter_append, ih]
theorem flat_congr {α β : Type} (f g : α → List β) : ∀ l : List α, (∀ x ∈ l, f x = g x) → l.flatMap f = l.flatMap g := by
  intro l
  induction l with
  | nil => intro _; rfl
  | cons x l ih => intro h; rw [List.flatMap_cons, List.flatMap_cons, h x List.mem_cons_self, ih fun y hy => h y (List.mem_cons_of_mem _ hy)]

theorem chs_perm (N : Nat) : ∀ (rows : List (List Int)) (u : Nat), (∀ r ∈ rows, r.length = N) → (prm (freeL N u) rows.length).filter (fitR rows) = chs rows u := by
  intro rows
  induction rows with
  | nil => intro u _; rfl
  | cons r rest ih =>
    intro u h
    have hr := h r List.mem_cons_self
    rw [List.length_cons, prm, chs, colL_flat, flat_filter, hr]
    have h1 : ∀ c ∈ freeL N u, ((prm ((freeL N u).erase c) rest.length).map (c :: ·)).filter (fitR (r :: rest)) = if 0 < r.getD c 0 then (chs rest (u ||| 2 ^ c)).map (c :: ·) else [] := by
      intro c hc
      rw [freeL_erase N u c hc, List.filter_map]
      by_cases h0 : 0 < r.getD c 0
      · rw [if_pos h0, ← ih (u ||| 2 ^ c) (fun r' hr' => h r' (List.mem_cons_of_mem _ hr'))]
        congr 1
        apply List.filter_congr
        intro x _
        show (decide (0 < r.getD c 0) && fitR rest x) = fitR rest x
        rw [decide_eq_true h0]; rfl
      · rw [if_neg h0]
        rw [List.filter_eq_nil_iff.2 (fun x _ => by show ¬ ((decide (0 < r.getD c 0) && fitR rest x) = true); rw [decide_eq_false h0]; simp)]
        rfl
    rw [flat_congr _ _ _ h1]
    unfold freeL
    rw [filter_flat]
    congr 1
    funext i
    rw [Nat.zero_add]
    cases hb : u.testBit i <;> simp

theorem freeL_zero (N : Nat) : freeL N 0 = List.range N := by
  unfold freeL
  rw [List.filter_eq_self]
  intro x _
  simp

/-- The permanent of rows of zeros and ones is the number of choices. -/
theorem perm_cnt (N : Nat) : ∀ (rows : List (List Int)) (u : Nat), (∀ r ∈ rows, r.length = N ∧ ∀ x ∈ r, x = 0 ∨ x = 1) → u < 2 ^ N → (freeL N u).length = rows.length → permC N rows u = cntC rows u := by
  intro rows
  induction rows with
  | nil =>
    intro u _ hu hf
    have hall : u = 2 ^ N - 1 := by
      apply Nat.eq_of_testBit_eq
      intro i
      rw [Nat.testBit_two_pow_sub_one]
      by_cases hi : i < N
      · rw [decide_eq_true hi]
        cases hb : u.testBit i with
        | true => rfl
        | false =>
          have : i ∈ freeL N u := List.mem_filter.2 ⟨List.mem_range.2 hi, by simp [hb]⟩
          rw [List.eq_nil_of_length_eq_zero hf] at this
          cases this
      · rw [decide_eq_false hi]
        exact Nat.testBit_lt_two_pow (Nat.lt_of_lt_of_le hu (Nat.pow_le_pow_right (by omega) (by omega)))
    simp only [permC, cntC]
    rw [if_pos hall]
  | cons r rest ih =>
    intro u h hu hf
    obtain ⟨hrl, hr01⟩ := h r List.mem_cons_self
    simp only [permC, cntC]
    have key : ∀ (l : List Int) (c : Nat), (∀ x ∈ l, x = 0 ∨ x = 1) → c + l.length ≤ N → rowS (permC N rest) u l c = colS (cntC rest) u l c := by
      intro l
      induction l with
      | nil => intro c _ _; rfl
      | cons x l ihl =>
        intro c h01 hc
        simp only [rowS, colS]
        rw [ihl (c + 1) (fun y hy => h01 y (List.mem_cons_of_mem _ hy)) (by simp at hc; omega)]
        congr 1
        by_cases hx : 0 < x ∧ u.testBit c = false
        · rw [if_pos hx, if_pos hx]
          have hx1 : x = 1 := by rcases h01 x List.mem_cons_self with h | h <;> omega
          have hcN : c < N := by simp at hc; omega
          have hcf : c ∈ freeL N u := List.mem_filter.2 ⟨List.mem_range.2 hcN, by simp [hx.2]⟩
          have hl : (freeL N (u ||| 2 ^ c)).length = rest.length := by
            rw [← freeL_erase N u c hcf, List.length_erase_of_mem hcf, hf]; rfl
          rw [ih (u ||| 2 ^ c) (fun r' hr' => h r' (List.mem_cons_of_mem _ hr')) (Nat.or_lt_two_pow hu (Nat.pow_lt_pow_right (by omega) hcN)) hl, hx1]
          simp
        · rw [if_neg hx, if_neg hx]
    exact key r 0 hr01 (by omega)

/-- How many of the first k orders fit. -/
def fitK (X : List (List Int)) (k : Nat) : Nat := ((List.range k).filter fun j => fitR X (colN X.length j)).length
theorem fitK_succ (X : List (List Int)) (k : Nat) : fitK X (k + 1) = fitK X k + if fitR X (colN X.length k) then 1 else 0 := by
  unfold fitK
  rw [List.range_succ, List.filter_append, List.length_append]
  congr 1
  simp only [List.filter_cons, List.filter_nil]
  split <;> rfl
theorem fits_all (X : List (List Int)) (hn : X.length < 6) (h : ∀ r ∈ X, r.length = X.length) : (((List.range (facN X.length)).map (colN X.length)).filter (fitR X)) = chs X 0 := by
  rw [ord_all X.length hn, ← freeL_zero X.length]
  exact chs_perm X.length X 0 h
theorem filter_at {α β : Type} (f : α → β) (p : β → Bool) : ∀ (l : List α) (k : Nat) (x : α), l[k]? = some x → p (f x) = true → ((l.map f).filter p)[((l.take k).filter fun y => p (f y)).length]? = some (f x) := by
  intro l
  induction l with
  | nil => intro k x h; simp at h
  | cons y l ih =>
    intro k x h hp
    cases k with
    | zero =>
      simp at h
      subst h
      simp [hp]
    | succ k =>
      have := ih k x (by simpa using h) hp
      rw [List.map_cons, List.take_succ_cons, List.filter_cons, List.filter_cons]
      cases hy : p (f y) with
      | true => simpa using this
      | false => simpa using this
theorem fit_at (X : List (List Int)) (hn : X.length < 6) (h : ∀ r ∈ X, r.length = X.length) (k : Nat) (hk : k < facN X.length) (hf : fitR X (colN X.length k) = true) : (chs X 0)[fitK X k]? = some (colN X.length k) := by
  rw [← fits_all X hn h]
  have := filter_at (colN X.length) (fitR X) (List.range (facN X.length)) k k (by simp [hk]) hf
  rw [List.take_range, Nat.min_eq_left (by omega)] at this
  exact this
theorem fit_end (X : List (List Int)) (hn : X.length < 6) (h : ∀ r ∈ X, r.length = X.length ∧ ∀ x ∈ r, x = 0 ∨ x = 1) : permC X.length X 0 = fitK X (facN X.length) := by
  rw [perm_cnt X.length X 0 h (Nat.two_pow_pos _) (by rw [freeL_zero, List.length_range]), ← chs_len, ← fits_all X hn (fun r hr => (h r hr).1), List.filter_map, List.length_map]
  rfl

end Go.Proofs.YtkmpdcckgibkhaaGreat
