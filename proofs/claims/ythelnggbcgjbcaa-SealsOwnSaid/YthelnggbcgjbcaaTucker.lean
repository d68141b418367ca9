/-
  A combinatorial law on labels of sign vectors (Tucker's, by Fan's count of alternating chains). No program.
-/
import Derived.Test.YthelnggbcgjbcaaPure
namespace Go.Proofs.Ythelnggbcgjbcaa

/-! ### Sums of truth values -/
/-- The parity of how often a test holds. -/
def xsum {α : Type} : List α → (α → Bool) → Bool
  | [], _ => false
  | a :: l, f => (f a) ^^ (xsum l f)
theorem xsum_congr {α : Type} {l : List α} {f g : α → Bool} (h : ∀ a ∈ l, f a = g a) : xsum l f = xsum l g := by
  induction l with
  | nil => rfl
  | cons a l ih =>
    simp only [xsum]
    rw [h a (by simp), ih (fun b hb => h b (by simp [hb]))]
theorem xsum_xor {α : Type} (l : List α) (f g : α → Bool) : xsum l (fun a => f a ^^ g a) = (xsum l f ^^ xsum l g) := by
  induction l with
  | nil => rfl
  | cons a l ih => simp only [xsum, ih]; cases f a <;> cases g a <;> cases xsum l f <;> cases xsum l g <;> rfl
theorem xsum_false {α : Type} (l : List α) : xsum l (fun _ => false) = false := by
  induction l with
  | nil => rfl
  | cons a l ih => simp [xsum, ih]
theorem xsum_map {α β : Type} (l : List α) (m : α → β) (f : β → Bool) : xsum (l.map m) f = xsum l (fun a => f (m a)) := by
  induction l with
  | nil => rfl
  | cons a l ih => simp [xsum, ih]
theorem xsum_append {α : Type} (l m : List α) (f : α → Bool) : xsum (l ++ m) f = (xsum l f ^^ xsum m f) := by
  induction l with
  | nil => simp [xsum]
  | cons a l ih => simp [xsum, ih]
theorem xsum_comm {α β : Type} (l : List α) (m : List β) (f : α → β → Bool) : xsum l (fun a => xsum m (f a)) = xsum m (fun b => xsum l (fun a => f a b)) := by
  induction l with
  | nil => simp [xsum, xsum_false]
  | cons a l ih => simp only [xsum, ih, xsum_xor]
theorem xsum_true {α : Type} {l : List α} {f : α → Bool} (h : xsum l f = true) : ∃ a ∈ l, f a = true := by
  induction l with
  | nil => simp [xsum] at h
  | cons a l ih =>
    by_cases ha : f a = true
    · exact ⟨a, by simp, ha⟩
    · simp only [xsum, Bool.eq_false_iff.2 ha, Bool.false_bne] at h
      obtain ⟨b, hb, hf⟩ := ih (by simpa using h)
      exact ⟨b, by simp [hb], hf⟩

/-! ### Arrangements: each coordinate once, with one of its signs, the newest first -/
abbrev Opt := Nat × List Int
/-- Which entry is put in next, and what is left. -/
def spicks : List Opt → List ((Nat × Int) × List Opt)
  | [] => []
  | a :: R => a.2.map (fun s => ((a.1, s), R)) ++ (spicks R).map (fun p => (p.1, a :: p.2))
/-- The parity over all arrangements. -/
def S : Nat → List Opt → (List (Nat × Int) → Bool) → Bool
  | 0, _, Ψ => Ψ []
  | n + 1, R, Ψ => xsum (spicks R) (fun p => S n p.2 (fun q => Ψ (p.1 :: q)))

theorem spicks_mem {R : List Opt} {p : (Nat × Int) × List Opt} (h : p ∈ spicks R) : (∃ o ∈ R, o.1 = p.1.1 ∧ p.1.2 ∈ o.2) ∧ p.2.length + 1 = R.length ∧ (∀ o ∈ p.2, o ∈ R) := by
  induction R generalizing p with
  | nil => simp [spicks] at h
  | cons a R ih =>
    simp only [spicks, List.mem_append, List.mem_map] at h
    rcases h with ⟨s, hs, rfl⟩ | ⟨p, hp, rfl⟩
    · exact ⟨⟨a, by simp, rfl, hs⟩, rfl, fun o ho => by simp [ho]⟩
    · obtain ⟨⟨o, h1, h2⟩, h3, h4⟩ := ih hp
      refine ⟨⟨o, by simp [h1], h2⟩, by simp; omega, fun o' ho => ?_⟩
      rcases List.mem_cons.1 ho with rfl | ho
      · simp
      · simp [h4 o' ho]
/-- The coordinates differ. -/
def Dis (R : List Opt) : Prop := R.Pairwise (fun a b => a.1 ≠ b.1)
theorem spicks_dis {R : List Opt} (hR : Dis R) {p : (Nat × Int) × List Opt} (h : p ∈ spicks R) : Dis p.2 ∧ ∀ o ∈ p.2, o.1 ≠ p.1.1 := by
  induction R generalizing p with
  | nil => simp [spicks] at h
  | cons a R ih =>
    have hR' := List.pairwise_cons.1 hR
    simp only [spicks, List.mem_append, List.mem_map] at h
    rcases h with ⟨s, hs, rfl⟩ | ⟨p, hp, rfl⟩
    · exact ⟨hR'.2, fun o ho => (hR'.1 o ho).symm⟩
    · obtain ⟨h1, h2⟩ := ih hR'.2 hp
      obtain ⟨⟨o, ho, ho2⟩, -, h3⟩ := spicks_mem hp
      refine ⟨List.pairwise_cons.2 ⟨fun b hb => hR'.1 b (h3 b hb), h1⟩, fun o' ho' => ?_⟩
      rcases List.mem_cons.1 ho' with rfl | ho'
      · have := hR'.1 o ho; rw [ho2.1] at this; exact this
      · exact h2 o' ho'
theorem spicks_dis2 {R : List Opt} (hR : Dis R) {p p' : (Nat × Int) × List Opt} (h : p ∈ spicks R) (h' : p' ∈ spicks p.2) : p.1.1 ≠ p'.1.1 := by
  obtain ⟨⟨o, ho, ho2⟩, -, -⟩ := spicks_mem h'
  rw [← ho2.1]
  exact ((spicks_dis hR h).2 o ho).symm

/-- Two picks, counted by what does not tell which came first, come to an even number. -/
theorem picks_two (g : (Nat × Int) → (Nat × Int) → List Opt → Bool) (R : List Opt) (hR : Dis R) (hg : ∀ x y R', x.1 ≠ y.1 → g x y R' = g y x R') :
    xsum (spicks R) (fun p => xsum (spicks p.2) (fun p' => g p.1 p'.1 p'.2)) = false := by
  induction R generalizing g with
  | nil => rfl
  | cons a R ih =>
    have hR' := List.pairwise_cons.1 hR
    have hih := ih (fun x y R' => g x y (a :: R')) hR'.2 (fun x y R' h => hg x y _ h)
    simp only [spicks, xsum_append, xsum_map, xsum_xor]
    rw [hih, Bool.xor_false]
    rw [xsum_comm a.2 (spicks R)]
    have key : ∀ b ∈ spicks R, (xsum a.2 fun s => g (a.1, s) b.1 b.2) = (xsum a.2 fun s => g b.1 (a.1, s) b.2) := by
      intro b hb
      refine xsum_congr fun s _ => hg _ _ _ ?_
      obtain ⟨⟨o, ho, ho2⟩, -, -⟩ := spicks_mem hb
      rw [← ho2.1]; exact hR'.1 o ho
    rw [xsum_congr key]
    exact Bool.xor_self _

theorem S_congr {n : Nat} {R : List Opt} {Ψ Ψ' : List (Nat × Int) → Bool} (h : ∀ q, q.length = n → (∀ x ∈ q, ∃ o ∈ R, o.1 = x.1 ∧ x.2 ∈ o.2) → Ψ q = Ψ' q) : S n R Ψ = S n R Ψ' := by
  induction n generalizing R Ψ Ψ' with
  | zero => exact h [] rfl (by simp)
  | succ n ih =>
    refine xsum_congr fun p hp => ih fun q hq hx => h _ (by simp [hq]) ?_
    obtain ⟨h1, -, h3⟩ := spicks_mem hp
    intro x hx'
    rcases List.mem_cons.1 hx' with rfl | hx'
    · exact h1
    · obtain ⟨o, ho, ho2⟩ := hx x hx'
      exact ⟨o, h3 o ho, ho2⟩
theorem S_xor (n : Nat) (R : List Opt) (Ψ Ψ' : List (Nat × Int) → Bool) : S n R (fun q => Ψ q ^^ Ψ' q) = (S n R Ψ ^^ S n R Ψ') := by
  induction n generalizing R Ψ Ψ' with
  | zero => rfl
  | succ n ih => simp only [S, ih, xsum_xor]
theorem S_false (n : Nat) (R : List Opt) : S n R (fun _ => false) = false := by
  induction n generalizing R with
  | zero => rfl
  | succ n ih => simp only [S, ih, xsum_false]
theorem S_true {n : Nat} {R : List Opt} {Ψ : List (Nat × Int) → Bool} (h : S n R Ψ = true) : ∃ q, q.length = n ∧ (∀ x ∈ q, ∃ o ∈ R, o.1 = x.1 ∧ x.2 ∈ o.2) ∧ Ψ q = true := by
  induction n generalizing R Ψ with
  | zero => exact ⟨[], rfl, by simp, h⟩
  | succ n ih =>
    obtain ⟨p, hp, hS⟩ := xsum_true h
    obtain ⟨q, h1, h2, h3⟩ := ih hS
    obtain ⟨g1, -, g3⟩ := spicks_mem hp
    refine ⟨p.1 :: q, by simp [h1], fun x hx => ?_, h3⟩
    rcases List.mem_cons.1 hx with rfl | hx
    · exact g1
    · obtain ⟨o, ho, ho2⟩ := h2 x hx
      exact ⟨o, g3 o ho, ho2⟩
/-- An entry with two signs. -/
theorem S_split (n : Nat) (c : Nat) (R : List Opt) (hn : n = R.length) (Ψ : List (Nat × Int) → Bool) : S (n + 1) ((c, [1, -1]) :: R) Ψ = (S (n + 1) ((c, [1]) :: R) Ψ ^^ S (n + 1) ((c, [-1]) :: R) Ψ) := by
  induction n generalizing R Ψ with
  | zero =>
    have : R = [] := List.eq_nil_of_length_eq_zero hn.symm
    subst this
    simp [S, spicks, xsum]
  | succ n ih =>
    rw [S.eq_2, S.eq_2, S.eq_2]
    simp only [spicks, xsum_append, xsum_map, xsum, Bool.xor_false]
    have key : ∀ p ∈ spicks R, (S (n + 1) ((c, [1, -1]) :: p.2) fun q => Ψ (p.1 :: q)) = (S (n + 1) ((c, [1]) :: p.2) (fun q => Ψ (p.1 :: q)) ^^ S (n + 1) ((c, [-1]) :: p.2) (fun q => Ψ (p.1 :: q))) :=
      fun p hp => ih p.2 (by have := (spicks_mem hp).2.1; omega) _
    rw [xsum_congr key, xsum_xor]
    generalize S (n + 1) R _ = a
    generalize S (n + 1) R _ = b
    generalize xsum _ _ = d
    generalize xsum _ _ = e
    cases a <;> cases b <;> cases d <;> cases e <;> rfl

/-! ### Turning all signs -/
theorem xsum_reverse {α : Type} (l : List α) (f : α → Bool) : xsum l.reverse f = xsum l f := by
  induction l with
  | nil => rfl
  | cons a l ih => rw [List.reverse_cons, xsum_append, ih]; simp [xsum, Bool.xor_comm]
def nf (R : List Opt) : List Opt := R.map fun o => (o.1, (o.2.map (- ·)).reverse)
def ng (q : List (Nat × Int)) : List (Nat × Int) := q.map fun x => (x.1, - x.2)
theorem spicks_nf (R : List Opt) (F : (Nat × Int) × List Opt → Bool) : xsum (spicks (nf R)) F = xsum (spicks R) (fun p => F ((p.1.1, - p.1.2), nf p.2)) := by
  induction R generalizing F with
  | nil => rfl
  | cons a R ih =>
    have e : nf (a :: R) = (a.1, (a.2.map (- ·)).reverse) :: nf R := rfl
    rw [e]
    simp only [spicks, xsum_append, xsum_map, xsum_reverse]
    rw [ih]
    rfl
theorem S_nf (n : Nat) (R : List Opt) (Ψ : List (Nat × Int) → Bool) : S n (nf R) Ψ = S n R (fun q => Ψ (ng q)) := by
  induction n generalizing R Ψ with
  | zero => rfl
  | succ n ih =>
    simp only [S, spicks_nf, ih]
    rfl

/-! ### Vectors and labels -/
def upd (x : Nat × Int) (v : Nat → Int) : Nat → Int := fun c => if v c ≠ 0 then v c else if c = x.1 then x.2 else 0
def vec : List (Nat × Int) → Nat → Int
  | [] => fun _ => 0
  | x :: q => upd x (vec q)
theorem vec_swap (x y : Nat × Int) (q : List (Nat × Int)) (h : x.1 ≠ y.1) : vec (x :: y :: q) = vec (y :: x :: q) := by
  funext c
  simp only [vec, upd]
  by_cases h0 : vec q c = 0
  · by_cases hx : c = x.1
    · subst hx
      by_cases h2 : x.2 = 0 <;> simp [h0, h, h2]
    · by_cases hy : c = y.1
      · subst hy
        by_cases h2 : y.2 = 0 <;> simp [h0, h.symm, h2]
      · simp [h0, hx, hy]
  · simp [h0]
theorem vec_ng (q : List (Nat × Int)) : vec (ng q) = fun c => - vec q c := by
  induction q with
  | nil => rfl
  | cons x q ih =>
    funext c
    show upd (x.1, - x.2) (vec (ng q)) c = _
    rw [ih]
    simp only [vec, upd]
    by_cases h0 : vec q c = 0
    · by_cases hx : c = x.1
      · subst hx; simp [h0]
      · simp [h0, hx]
    · simp [h0]
/-- The labels of a chain of vectors, the greatest first. -/
def lab (lam : (Nat → Int) → Int) : List (Nat × Int) → List Int
  | [] => []
  | x :: q => lam (vec (x :: q)) :: lab lam q
/-- All lists with one element left out. -/
def facs : List Int → List (List Int)
  | [] => []
  | a :: r => r :: (facs r).map (a :: ·)

theorem facs_inner (lam : (Nat → Int) → Int) (n : Nat) (R : List Opt) (hR : Dis R) (Ψ : (Nat → Int) → List Int → Bool) :
    S n R (fun q => xsum (facs (lab lam q)).tail (Ψ (vec q))) = false := by
  induction n generalizing R Ψ with
  | zero => rfl
  | succ n ih =>
    cases n with
    | zero =>
      simp only [S, lab, facs, List.map_nil, List.tail_cons, xsum, xsum_false]
    | succ n =>
      have key : ∀ p ∈ spicks R, (S (n + 1) p.2 fun q => xsum (facs (lab lam (p.1 :: q))).tail (Ψ (vec (p.1 :: q)))) =
          (xsum (spicks p.2) fun p' => S n p'.2 fun q => Ψ (vec (p.1 :: p'.1 :: q)) (lam (vec (p.1 :: p'.1 :: q)) :: lab lam q)) := by
        intro p hp
        have h1 : ∀ q, xsum (facs (lab lam (p.1 :: q))).tail (Ψ (vec (p.1 :: q))) =
            ((match q with | [] => false | y :: q' => Ψ (vec (p.1 :: y :: q')) (lam (vec (p.1 :: y :: q')) :: lab lam q')) ^^
              xsum (facs (lab lam q)).tail (fun L => Ψ (upd p.1 (vec q)) (lam (upd p.1 (vec q)) :: L))) := by
          intro q
          cases q with
          | nil => rfl
          | cons y q' =>
            simp only [lab, facs, List.tail_cons, xsum_map, List.map_cons, xsum]
            rfl
        simp only [h1]
        rw [S_xor, ih p.2 (spicks_dis hR hp).1 (fun v L => Ψ (upd p.1 v) (lam (upd p.1 v) :: L)), Bool.xor_false]
        rfl
      rw [S, xsum_congr key]
      refine picks_two (fun x y R' => S n R' fun q => Ψ (vec (x :: y :: q)) (lam (vec (x :: y :: q)) :: lab lam q)) R hR ?_
      intro x y R' hxy
      simp only [vec_swap x y _ hxy]

/-! ### Sorting by size, and alternating lists -/
def le2 (a b : Int) : Bool := decide (a.natAbs < b.natAbs) || (decide (a.natAbs = b.natAbs) && decide (a ≤ b))
theorem le2_iff (a b : Int) : le2 a b = true ↔ a.natAbs < b.natAbs ∨ (a.natAbs = b.natAbs ∧ a ≤ b) := by simp [le2]
theorem le2_not {a b : Int} (h : le2 a b = false) : le2 b a = true := by
  rw [le2_iff]
  have h' : ¬ (le2 a b = true) := by simp [h]
  rw [le2_iff] at h'
  omega
theorem le2_trans {a b c : Int} (h : le2 a b = true) (k : le2 b c = true) : le2 a c = true := by
  rw [le2_iff] at *
  omega
theorem le2_anti {a b : Int} (h : le2 a b = true) (k : le2 b a = true) : a = b := by
  rw [le2_iff] at *
  omega
def ins (a : Int) : List Int → List Int
  | [] => [a]
  | b :: r => if le2 a b then a :: b :: r else b :: ins a r
def srt : List Int → List Int
  | [] => []
  | a :: r => ins a (srt r)
def alt : Bool → List Int → Bool
  | _, [] => true
  | b, a :: r => (decide (0 < a) == b) && alt (!b) r
def Srt (l : List Int) : Prop := l.Pairwise (fun a b => le2 a b = true)
theorem ins_mem (a x : Int) (l : List Int) : x ∈ ins a l ↔ x = a ∨ x ∈ l := by
  induction l with
  | nil => simp [ins]
  | cons b r ih =>
    simp only [ins]
    split
    · simp
    · simp only [List.mem_cons, ih]
      constructor
      · rintro (h | h | h)
        · exact .inr (.inl h)
        · exact .inl h
        · exact .inr (.inr h)
      · rintro (h | h | h)
        · exact .inr (.inl h)
        · exact .inl h
        · exact .inr (.inr h)
theorem ins_srt (a : Int) (l : List Int) (h : Srt l) : Srt (ins a l) := by
  induction l with
  | nil => simp [ins, Srt]
  | cons b r ih =>
    have h' := List.pairwise_cons.1 h
    simp only [ins]
    split
    · rename_i hab
      refine List.pairwise_cons.2 ⟨fun x hx => ?_, h⟩
      rcases List.mem_cons.1 hx with rfl | hx
      · exact hab
      · exact le2_trans hab (h'.1 x hx)
    · rename_i hab
      refine List.pairwise_cons.2 ⟨fun x hx => ?_, ih h'.2⟩
      rcases (ins_mem a x r).1 hx with rfl | hx
      · exact le2_not (by simpa using hab)
      · exact h'.1 x hx
theorem srt_srt (l : List Int) : Srt (srt l) := by
  induction l with
  | nil => exact List.Pairwise.nil
  | cons a r ih => exact ins_srt a _ ih
theorem srt_mem (x : Int) (l : List Int) : x ∈ srt l ↔ x ∈ l := by
  induction l with
  | nil => rfl
  | cons a r ih => rw [srt, ins_mem, ih, List.mem_cons]
theorem ins_len (a : Int) (l : List Int) : (ins a l).length = l.length + 1 := by
  induction l with
  | nil => rfl
  | cons b r ih => simp only [ins]; split <;> simp [ih]
theorem srt_len (l : List Int) : (srt l).length = l.length := by
  induction l with
  | nil => rfl
  | cons a r ih => rw [srt, ins_len, ih, List.length_cons]
theorem ins_le (a : Int) (l : List Int) (h : ∀ x ∈ l, le2 a x = true) : ins a l = a :: l := by
  cases l with
  | nil => rfl
  | cons b r => simp [ins, h b (by simp)]
theorem facs_mem {l m : List Int} (h : m ∈ facs l) : ∀ x ∈ m, x ∈ l := by
  induction l generalizing m with
  | nil => simp [facs] at h
  | cons a r ih =>
    simp only [facs, List.mem_cons, List.mem_map] at h
    rcases h with rfl | ⟨m, hm, rfl⟩
    · intro x hx; simp [hx]
    · intro x hx
      rcases List.mem_cons.1 hx with rfl | hx
      · simp
      · simp [ih hm x hx]
theorem facs_ins (a : Int) (l : List Int) (hl : Srt l) (h : List Int → Bool) : xsum (facs (ins a l)) h = (h l ^^ xsum (facs l) (fun m => h (ins a m))) := by
  induction l generalizing h with
  | nil => simp [ins, facs, xsum]
  | cons b t ih =>
    have hl' := List.pairwise_cons.1 hl
    by_cases hab : le2 a b = true
    · have hall : ∀ x ∈ b :: t, le2 a x = true := fun x hx => by
        rcases List.mem_cons.1 hx with rfl | hx
        · exact hab
        · exact le2_trans hab (hl'.1 x hx)
      rw [ins_le a _ hall, facs, xsum, xsum_map]
      congr 1
      refine xsum_congr fun m hm => ?_
      rw [ins_le a m (fun x hx => hall x (facs_mem hm x hx))]
    · rw [show ins a (b :: t) = b :: ins a t by simp [ins, hab]]
      rw [facs, xsum, xsum_map, ih hl'.2 (fun m => h (b :: m)), facs, xsum, xsum_map]
      have e : ∀ m, ins a (b :: m) = b :: ins a m := fun m => by simp [ins, hab]
      simp only [e]
      generalize h (ins a t) = x
      generalize h (b :: t) = y
      generalize xsum (facs t) _ = z
      cases x <;> cases y <;> cases z <;> rfl
theorem facs_srt (l : List Int) (h : List Int → Bool) : xsum (facs l) (fun m => h (srt m)) = xsum (facs (srt l)) h := by
  induction l generalizing h with
  | nil => rfl
  | cons a r ih =>
    rw [facs, xsum, xsum_map, srt, facs_ins a _ (srt_srt r), ← ih (fun m => h (ins a m))]
    rfl
theorem facs_alt (l : List Int) (hl : l ≠ []) (b : Bool) : xsum (facs l) (alt b) = (alt b l ^^ alt (!b) l) := by
  induction l generalizing b with
  | nil => exact absurd rfl hl
  | cons a r ih =>
    rw [facs, xsum, xsum_map]
    simp only [alt, Bool.not_not]
    cases r with
    | nil => cases b <;> by_cases h : 0 < a <;> simp [facs, xsum, alt, h]
    | cons c t =>
      have hih := ih (by simp) (!b)
      rw [Bool.not_not] at hih
      generalize decide (0 < a) = d
      cases hdb : (d == b)
      · have : (d == !b) = true := by cases d <;> cases b <;> simp_all
        simp only [this, Bool.false_and, Bool.true_and, xsum_false, Bool.xor_false, Bool.false_xor]
      · have : (d == !b) = false := by cases d <;> cases b <;> simp_all
        simp only [this, Bool.false_and, Bool.true_and]
        rw [hih]
        cases alt b (c :: t) <;> cases alt (!b) (c :: t) <;> rfl

/-! ### The law -/
/-- Labels of which none is zero and of which equal sizes are equal. -/
def Good (l : List Int) : Prop := (∀ a ∈ l, a ≠ 0) ∧ ∀ a ∈ l, ∀ b ∈ l, a.natAbs = b.natAbs → a = b
theorem ins_neg (a : Int) (l : List Int) (h : ∀ b ∈ l, a.natAbs = b.natAbs → a = b) : ins (-a) (l.map (- ·)) = (ins a l).map (- ·) := by
  induction l with
  | nil => rfl
  | cons b r ih =>
    have e : le2 (-a) (-b) = le2 a b := by
      rw [Bool.eq_iff_iff, le2_iff, le2_iff]
      have := h b (by simp)
      omega
    simp only [List.map_cons, ins, e]
    split
    · rfl
    · rw [ih (fun b hb => h b (by simp [hb]))]; rfl
theorem srt_neg (l : List Int) (h : Good l) : srt (l.map (- ·)) = (srt l).map (- ·) := by
  induction l with
  | nil => rfl
  | cons a r ih =>
    rw [List.map_cons, srt, ih ⟨fun x hx => h.1 x (by simp [hx]), fun x hx y hy => h.2 x (by simp [hx]) y (by simp [hy])⟩, srt]
    exact ins_neg a _ fun b hb => h.2 a (by simp) b (by rw [srt_mem] at hb; simp [hb])
theorem alt_neg (l : List Int) (h : ∀ a ∈ l, a ≠ 0) (b : Bool) : alt b (l.map (- ·)) = alt (!b) l := by
  induction l generalizing b with
  | nil => rfl
  | cons a r ih =>
    simp only [List.map_cons, alt]
    rw [ih (fun x hx => h x (by simp [hx]))]
    have := h a (by simp)
    have e : decide (0 < -a) = !decide (0 < a) := by
      by_cases h0 : 0 < a
      · have h1 : ¬ 0 < -a := by omega
        rw [decide_eq_true h0, decide_eq_false h1]; rfl
      · have h1 : 0 < -a := by omega
        rw [decide_eq_false h0, decide_eq_true h1]; rfl
    rw [e]
    cases decide (0 < a) <;> cases b <;> rfl
theorem alt_far (l : List Int) (a : Int) (b : Bool) (hs : Srt (a :: l)) (hg : Good (a :: l)) (ha : alt b (a :: l) = true) : ∃ x ∈ a :: l, a.natAbs + l.length ≤ x.natAbs := by
  induction l generalizing a b with
  | nil => exact ⟨a, by simp, by simp⟩
  | cons c r ih =>
    have hs' := List.pairwise_cons.1 hs
    simp only [alt, Bool.and_eq_true, Bool.not_not] at ha
    obtain ⟨x, hx, hlx⟩ := ih c (!b) hs'.2 ⟨fun y hy => hg.1 y (by simp [hy]), fun y hy z hz => hg.2 y (by simp [hy]) z (by simp [hz])⟩ (by simp only [alt, Bool.and_eq_true, Bool.not_not]; exact ha.2)
    refine ⟨x, by simp [hx], ?_⟩
    have hac := (le2_iff a c).1 (hs'.1 c (by simp))
    have hne : a.natAbs ≠ c.natAbs := fun e => by
      have := hg.2 a (by simp) c (by simp) e
      subst this
      have h1 := ha.1
      have h2 := ha.2.1
      cases b <;> simp_all
    simp only [List.length_cons]
    omega

/-- Both signs. -/
def bo (C : List Nat) : List Opt := C.map fun c => (c, [1, -1])
theorem bo_dis {C : List Nat} (h : C.Nodup) : Dis (bo C) := by
  unfold bo Dis
  rw [List.pairwise_map]
  exact h
theorem nf_bo (C : List Nat) : nf (bo C) = bo C := by
  unfold nf bo
  rw [List.map_map]
  rfl
theorem spicks_bo (C : List Nat) (f : List Opt → Bool) : xsum (spicks (bo C)) (fun p => f p.2) = false := by
  induction C generalizing f with
  | nil => rfl
  | cons c C ih =>
    rw [show bo (c :: C) = (c, [1, -1]) :: bo C from rfl]
    simp only [spicks, xsum_append, xsum_map, xsum, Bool.xor_false, Bool.xor_self, Bool.false_xor]
    exact ih (fun R => f ((c, [1, -1]) :: R))

theorem lab_ng (lam : (Nat → Int) → Int) (hneg : ∀ x q, lam (fun c => - vec (x :: q) c) = - lam (vec (x :: q))) (q : List (Nat × Int)) : lab lam (ng q) = (lab lam q).map (- ·) := by
  induction q with
  | nil => rfl
  | cons x q ih =>
    show lam (vec (ng (x :: q))) :: lab lam (ng q) = _
    rw [ih, vec_ng, hneg]
    rfl
theorem lab_len (lam : (Nat → Int) → Int) (q : List (Nat × Int)) : (lab lam q).length = q.length := by
  induction q with
  | nil => rfl
  | cons x q ih => simp [lab, ih]

/-- The parity of the alternating chains. -/
def T (lam : (Nat → Int) → Int) (C : List Nat) : Bool := S C.length (bo C) (fun q => alt true (srt (lab lam q)))

theorem T_true (lam : (Nat → Int) → Int) (hneg : ∀ x q, lam (fun c => - vec (x :: q) c) = - lam (vec (x :: q))) (Q : Nat → Prop) (hgood : ∀ q, (∀ y ∈ q, Q y.1 ∧ (y.2 = 1 ∨ y.2 = -1)) → Good (lab lam q)) (C : List Nat) (hC : C.Nodup) (hQ : ∀ c ∈ C, Q c) : T lam C = true := by
  induction C with
  | nil => rfl
  | cons c C ih =>
    have hC' := List.nodup_cons.1 hC
    have hdis : Dis ((c, [1]) :: bo C) := List.pairwise_cons.2 ⟨fun o ho => by
      obtain ⟨d, hd, rfl⟩ := List.mem_map.1 ho
      exact fun e => hC'.1 (by have : c = d := e; rw [this]; exact hd), bo_dis hC'.2⟩
    have hlen : C.length = (bo C).length := by simp [bo]
    rw [T, show bo (c :: C) = (c, [1, -1]) :: bo C from rfl, List.length_cons, S_split _ _ _ hlen]
    have h2 : S (C.length + 1) ((c, [-1]) :: bo C) (fun q => alt true (srt (lab lam q))) = S (C.length + 1) ((c, [1]) :: bo C) (fun q => alt false (srt (lab lam q))) := by
      rw [show (c, [-1]) :: bo C = nf ((c, [1]) :: bo C) by rw [show nf ((c, [1]) :: bo C) = (c, [-1]) :: nf (bo C) from rfl, nf_bo], S_nf]
      refine S_congr fun q _ hq => ?_
      have hg := hgood q fun y hy => by
        obtain ⟨o, ho, h1, h2⟩ := hq y hy
        rcases List.mem_cons.1 ho with rfl | ho
        · simp at h2; exact ⟨h1 ▸ hQ c (by simp), .inl h2⟩
        · obtain ⟨d, hd, rfl⟩ := List.mem_map.1 ho
          exact ⟨h1 ▸ hQ d (by simp [hd]), by simpa using h2⟩
      rw [lab_ng lam hneg, srt_neg _ hg, alt_neg _ (fun a ha => hg.1 a ((srt_mem a _).1 ha))]
      rfl
    rw [h2, ← S_xor]
    have h3 : S (C.length + 1) ((c, [1]) :: bo C) (fun q => alt true (srt (lab lam q)) ^^ alt false (srt (lab lam q))) =
        S (C.length + 1) ((c, [1]) :: bo C) (fun q => alt true (srt (lab lam q.tail)) ^^ xsum (facs (lab lam q)).tail (fun m => alt true (srt m))) := by
      refine S_congr fun q hq _ => ?_
      cases q with
      | nil => simp at hq
      | cons x q =>
        have hne : srt (lab lam (x :: q)) ≠ [] := fun e => by
          have := congrArg List.length e
          rw [srt_len] at this
          simp [lab] at this
        have := facs_alt (srt (lab lam (x :: q))) hne true
        rw [← facs_srt] at this
        rw [show (!true) = false from rfl] at this
        rw [← this]
        rfl
    rw [h3, S_xor, facs_inner lam _ _ hdis (fun _ m => alt true (srt m)), Bool.xor_false]
    rw [S]
    show xsum (spicks ((c, [1]) :: bo C)) (fun p => S C.length p.2 fun q => alt true (srt (lab lam q))) = true
    rw [spicks, xsum_append, xsum_map, xsum_map, spicks_bo C (fun R => S C.length ((c, [1]) :: R) fun q => alt true (srt (lab lam q))), Bool.xor_false]
    simp only [xsum, Bool.xor_false]
    exact ih hC'.2 fun d hd => hQ d (by simp [hd])

/-- Labels of all sign vectors on n coordinates, opposite for opposite ones and not opposite for one that goes on another, come to n. -/
theorem tucker (lam : (Nat → Int) → Int) (n : Nat) (hn : 0 < n)
    (hneg : ∀ v, lam (fun c => - v c) = - lam v)
    (hz : ∀ x q, (∀ y ∈ x :: q, y.1 < n ∧ (y.2 = 1 ∨ y.2 = -1)) → lam (vec (x :: q)) ≠ 0)
    (hopp : ∀ x q, (∀ y ∈ x :: q, y.1 < n ∧ (y.2 = 1 ∨ y.2 = -1)) → ∀ v, (∀ c, vec (x :: q) c ≠ 0 → v c = vec (x :: q) c) → lam v ≠ - lam (vec (x :: q))) :
    ∃ x q, (∀ y ∈ x :: q, y.1 < n ∧ (y.2 = 1 ∨ y.2 = -1)) ∧ n ≤ (lam (vec (x :: q))).natAbs := by
  have hgood : ∀ q, (∀ y ∈ q, y.1 < n ∧ (y.2 = 1 ∨ y.2 = -1)) → Good (lab lam q) := by
    intro q
    induction q with
    | nil => intro _; exact ⟨by simp [lab], by simp [lab]⟩
    | cons x q ih =>
      intro hq
      have hg := ih fun y hy => hq y (by simp [hy])
      have hsub : ∀ a ∈ lab lam q, a.natAbs = (lam (vec (x :: q))).natAbs → a = lam (vec (x :: q)) := by
        clear ih hg
        have gen : ∀ (q' : List (Nat × Int)), (∀ y ∈ q', y.1 < n ∧ (y.2 = 1 ∨ y.2 = -1)) → ∀ v, (∀ c, vec q' c ≠ 0 → v c = vec q' c) → ∀ a ∈ lab lam q', a.natAbs = (lam v).natAbs → a = lam v := by
          intro q'
          induction q' with
          | nil => intro _ v _ a ha; simp [lab] at ha
          | cons z q' ih' =>
            intro hq' v hv a ha hab
            simp only [lab, List.mem_cons] at ha
            rcases ha with rfl | ha
            · have := hopp z q' hq' v hv
              omega
            · refine ih' (fun y hy => hq' y (by simp [hy])) v (fun c hc => ?_) a ha hab
              have e : vec (z :: q') c = vec q' c := by simp [vec, upd, hc]
              rw [hv c (by rw [e]; exact hc), e]
        refine gen q (fun y hy => hq y (by simp [hy])) _ fun c hc => ?_
        simp [vec, upd, hc]
      refine ⟨fun a ha => ?_, fun a ha b hb hab => ?_⟩
      · simp only [lab, List.mem_cons] at ha
        rcases ha with rfl | ha
        · exact hz x q hq
        · exact hg.1 a ha
      · simp only [lab, List.mem_cons] at ha hb
        rcases ha with rfl | ha <;> rcases hb with rfl | hb
        · rfl
        · exact (hsub b hb hab.symm).symm
        · exact hsub a ha hab
        · exact hg.2 a ha b hb hab
  have hT := T_true lam (fun x q => hneg _) (· < n) hgood (List.range n) List.nodup_range (fun c hc => List.mem_range.1 hc)
  obtain ⟨q, hql, hq, hqa⟩ := S_true hT
  rw [List.length_range] at hql
  have hq1 : ∀ y ∈ q, y.1 < n ∧ (y.2 = 1 ∨ y.2 = -1) := fun y hy => by
    obtain ⟨o, ho, h1, h2⟩ := hq y hy
    obtain ⟨d, hd, rfl⟩ := List.mem_map.1 ho
    have : d = y.1 := h1
    subst this
    exact ⟨List.mem_range.1 hd, by simpa using h2⟩
  have hg := hgood q hq1
  cases hs : srt (lab lam q) with
  | nil =>
    have := congrArg List.length hs
    rw [srt_len, lab_len, List.length_nil] at this
    omega
  | cons a l =>
    have hmem : ∀ x, x ∈ a :: l → x ∈ lab lam q := fun x hx => (srt_mem x _).1 (by rw [hs]; exact hx)
    rw [hs] at hqa
    obtain ⟨x, hx, hlx⟩ := alt_far l a true (by rw [← hs]; exact srt_srt _) ⟨fun y hy => hg.1 y (hmem y hy), fun y hy z hz => hg.2 y (hmem y hy) z (hmem z hz)⟩ hqa
    have hll := congrArg List.length hs
    rw [srt_len, lab_len] at hll
    simp only [List.length_cons] at hll
    have ha0 := hg.1 a (hmem a (by simp))
    have hbig : n ≤ x.natAbs := by omega
    have : ∀ (q' : List (Nat × Int)), (∀ y ∈ q', y.1 < n ∧ (y.2 = 1 ∨ y.2 = -1)) → x ∈ lab lam q' → ∃ z q'', (∀ y ∈ z :: q'', y.1 < n ∧ (y.2 = 1 ∨ y.2 = -1)) ∧ n ≤ (lam (vec (z :: q''))).natAbs := by
      intro q'
      induction q' with
      | nil => intro _ hx; simp [lab] at hx
      | cons z q'' ih =>
        intro hq' hx
        simp only [lab, List.mem_cons] at hx
        rcases hx with rfl | hx
        · exact ⟨z, q'', hq', hbig⟩
        · exact ih (fun y hy => hq' y (by simp [hy])) hx
    exact this q hq1 (hmem x hx)
end Go.Proofs.Ythelnggbcgjbcaa
