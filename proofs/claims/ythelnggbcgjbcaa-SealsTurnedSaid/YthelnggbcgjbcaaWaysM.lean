/-
  Ways, counted state by state. No walk.
-/
import Derived.Test.YthelnggbcgjbcaaWaysR
import Derived.Test.YthelnggbcgjbcaaSMap
namespace Go.Proofs.Ythelnggbcgjbcaa
open Go.RowKit

/-- A position and what both carriers have more of each letter. -/
abbrev ST : Type := Int × Int × Int × Int × Int
def piece (l : List UInt8) (x : ST) (k : Nat) : List UInt8 := (l.drop x.1.toNat).take (k - x.1.toNat)
def tr (l : List UInt8) (sg : Int) (x : ST) (k : Nat) : ST :=
  ((k : Int), x.2.1 + sg * cn (piece l x k) 0, x.2.2.1 + sg * cn (piece l x k) 1, x.2.2.2.1 + sg * cn (piece l x k) 2, x.2.2.2.2 + sg * cn (piece l x k) 3)
def good (l : List UInt8) (sg : Int) (x : ST) : Bool :=
  (x.2.1 + sg * cn (l.drop x.1.toNat) 0 == 0) && (x.2.2.1 + sg * cn (l.drop x.1.toNat) 1 == 0) && (x.2.2.2.1 + sg * cn (l.drop x.1.toNat) 2 == 0) && (x.2.2.2.2 + sg * cn (l.drop x.1.toNat) 3 == 0)
def sumTo (f : Nat → Nat) (a : Nat) : Nat → Nat
  | 0 => 0
  | d + 1 => sumTo f a d + f (a + d)
/-- How many ways there are to go on from a state with so many more cuts. -/
def Wf (l : List UInt8) : Nat → Int → ST → Nat
  | 0, sg, x => if good l sg x then 1 else 0
  | m + 1, sg, x => sumTo (fun k => Wf l m (-sg) (tr l sg x k)) (x.1.toNat + 1) (l.length - (x.1.toNat + 1))
theorem sumTo_head (f : Nat → Nat) (a d : Nat) : sumTo f a (d + 1) = f a + sumTo f (a + 1) d := by
  induction d with
  | zero => simp [sumTo]
  | succ d ih => rw [sumTo, ih, sumTo, Nat.add_assoc, show a + (d + 1) = a + 1 + d by omega]
theorem sumTo_congr {f g : Nat → Nat} (a d : Nat) (h : ∀ k, a ≤ k → k < a + d → f k = g k) : sumTo f a d = sumTo g a d := by
  induction d with
  | zero => rfl
  | succ d ih => rw [sumTo, sumTo, ih fun k h1 h2 => h k h1 (by omega), h (a + d) (by omega) (by omega)]
theorem sumTo_le (f : Nat → Nat) (a d B : Nat) (h : ∀ k, f k ≤ B) : sumTo f a d ≤ d * B := by
  induction d with
  | zero => simp [sumTo]
  | succ d ih => rw [sumTo, Nat.succ_mul]; have := h (a + d); omega

/-- What both carriers differ in, from a position on. -/
def dif (l : List UInt8) (e : Nat) (L : List Int) (j : Nat) : Int := (cn (shareGo l e L).1 j : Int) - cn (shareGo l e L).2 j
def okD (l : List UInt8) (sg : Int) (x : ST) (L : List Int) : Bool :=
  (x.2.1 + sg * dif l x.1.toNat L 0 == 0) && (x.2.2.1 + sg * dif l x.1.toNat L 1 == 0) && (x.2.2.2.1 + sg * dif l x.1.toNat L 2 == 0) && (x.2.2.2.2 + sg * dif l x.1.toNat L 3 == 0)
theorem okD_cons (l : List UInt8) (sg : Int) (x : ST) (k : Nat) (L : List Int) : okD l sg x ((k : Int) :: L) = okD l (-sg) (tr l sg x k) L := by
  have h : ∀ (d : Int) (j : Nat), d + sg * dif l x.1.toNat ((k : Int) :: L) j = (d + sg * cn (piece l x k) j) + (-sg) * dif l k L j := by
    intro d j
    unfold dif piece
    simp only [shareGo, Int.toNat_natCast, cn_append]
    rw [Int.neg_mul, ← Int.sub_eq_add_neg, Int.add_sub_assoc, ← Int.mul_sub]
    congr 2
    omega
  unfold okD
  rw [h, h, h, h]
  rfl
theorem lsts_cons (p : List Int → Bool) (m : Nat) : ∀ (d f : Nat), (lsts (m + 1) f d).countP p = sumTo (fun k => (lsts m (k + 1) (f + d - (k + 1))).countP fun L => p ((k : Int) :: L)) f d := by
  intro d
  induction d with
  | zero => intro f; simp [lsts, sumTo]
  | succ d ih =>
    intro f
    rw [lsts, List.countP_append, List.countP_map, ih (f + 1), sumTo_head, show f + (d + 1) - (f + 1) = d by omega]
    congr 1
    exact sumTo_congr _ _ fun k h1 h2 => by rw [show f + 1 + d - (k + 1) = f + (d + 1) - (k + 1) by omega]
theorem Wf_count (l : List UInt8) : ∀ (m : Nat) (sg : Int) (x : ST), Wf l m sg x = (lsts m (x.1.toNat + 1) (l.length - (x.1.toNat + 1))).countP (okD l sg x) := by
  intro m
  induction m with
  | zero =>
    intro sg x
    have : okD l sg x [] = good l sg x := by simp [okD, good, dif, shareGo, cn]
    simp [Wf, lsts, this, List.countP_cons]
  | succ m ih =>
    intro sg x
    rw [Wf, lsts_cons]
    refine sumTo_congr _ _ fun k h1 h2 => ?_
    rw [ih]
    have e1 : (tr l sg x k).1.toNat = k := by simp [tr]
    rw [e1, show x.1.toNat + 1 + (l.length - (x.1.toNat + 1)) - (k + 1) = l.length - (k + 1) by omega]
    congr 1
    funext L
    rw [okD_cons]
theorem ways_Wf (l : List UInt8) (m : Nat) : waysN l [] m 1 = Wf l m 1 (0, 0, 0, 0, 0) := by
  rw [Wf_count]
  unfold waysN
  simp only [List.nil_append, List.map_id']
  show _ = List.countP _ (lsts m 1 (l.length - 1))
  congr 1
  funext L
  rw [Bool.eq_iff_iff]
  simp only [fairB, sameB, okD, dif, Bool.and_eq_true, beq_iff_eq, Int.toNat_zero]
  omega

/-- A map from states to numbers. -/
def vl (M : List (ST × Nat)) : List (ST × Value) := M.map fun p => (p.1, .int .i64 (p.2 : Int))
def cntM (y : ST) : List (ST × Nat) → Nat
  | [] => 0
  | (x, c) :: r => if y = x then c else cntM y r
def addM (y : ST) (n : Nat) : List (ST × Nat) → List (ST × Nat)
  | [] => [(y, n)]
  | (x, c) :: r => if y = x then (x, c + n) :: r else (x, c) :: addM y n r
def wsum (f : ST → Nat) : List (ST × Nat) → Nat
  | [] => 0
  | (x, c) :: r => c * f x + wsum f r
theorem vl_len (M : List (ST × Nat)) : (vl M).length = M.length := by simp [vl]
theorem get_vl (y : ST) (M : List (ST × Nat)) : (get y (vl M)).getD (.int .i64 0) = .int .i64 (cntM y M : Int) := by
  unfold get
  have : ∀ (M : List (ST × Nat)) (i : Nat), ((fnd y (vl M) i).map (·.2)).getD (.int .i64 0) = .int .i64 (cntM y M : Int) := by
    intro M
    induction M with
    | nil => intro i; rfl
    | cons p r ih =>
      intro i
      obtain ⟨x, c⟩ := p
      simp only [vl, List.map_cons, fnd, cntM]
      by_cases h : y = x
      · rw [if_pos h, if_pos h]; rfl
      · rw [if_neg h, if_neg h]; exact ih _
  exact this M 0
theorem put_vl (y : ST) (n : Nat) (M : List (ST × Nat)) : put y (.int .i64 ((cntM y M + n : Nat) : Int)) (vl M) = vl (addM y n M) := by
  induction M with
  | nil => simp [vl, put, addM, cntM]
  | cons p r ih =>
    obtain ⟨x, c⟩ := p
    simp only [vl, List.map_cons, put, cntM, addM] at ih ⊢
    by_cases h : y = x
    · rw [if_pos h, if_pos h, if_pos h]; rfl
    · rw [if_neg h, if_neg h, if_neg h, ih]; rfl
theorem wsum_add (f : ST → Nat) (y : ST) (n : Nat) (M : List (ST × Nat)) : wsum f (addM y n M) = wsum f M + n * f y := by
  induction M with
  | nil => simp [addM, wsum]
  | cons p r ih =>
    obtain ⟨x, c⟩ := p
    simp only [addM]
    by_cases h : y = x
    · rw [if_pos h, wsum, wsum, h, Nat.add_mul]; omega
    · rw [if_neg h, wsum, wsum, ih]; omega
theorem cntM_le (y : ST) (M : List (ST × Nat)) : cntM y M ≤ wsum (fun _ => 1) M := by
  induction M with
  | nil => simp [cntM]
  | cons p r ih =>
    obtain ⟨x, c⟩ := p
    simp only [cntM, wsum]
    split <;> omega
/-- A sum over some places of a map. -/
def isum (f : ST → Nat) (M : List (ST × Nat)) : List Nat → Nat
  | [] => 0
  | i :: r => (match M[i]? with | some p => p.2 * f p.1 | none => 0) + isum f M r
theorem isum_append (f : ST → Nat) (M : List (ST × Nat)) (a b : List Nat) : isum f M (a ++ b) = isum f M a + isum f M b := by
  induction a with
  | nil => simp [isum]
  | cons i r ih => simp only [List.cons_append, isum, ih]; omega
theorem isum_perm (f : ST → Nat) (M : List (ST × Nat)) {a b : List Nat} (h : a.Perm b) : isum f M a = isum f M b := by
  induction h with
  | nil => rfl
  | cons x _ ih => simp only [isum, ih]
  | swap x y l => simp only [isum]; omega
  | trans _ _ h1 h2 => exact h1.trans h2
theorem isum_all (f : ST → Nat) (M : List (ST × Nat)) : isum f M (List.range M.length) = wsum f M := by
  have : ∀ (M P : List (ST × Nat)), isum f (P ++ M) (List.range' P.length M.length) = wsum f M := by
    intro M
    induction M with
    | nil => intro P; rfl
    | cons p r ih =>
      intro P
      have := ih (P ++ [p])
      simp only [List.append_assoc, List.singleton_append, List.length_append, List.length_cons, List.length_nil] at this
      simp only [List.length_cons, List.range'_succ, isum]
      rw [show P.length + 1 = P.length + (0 + 1) by omega, this]
      simp [wsum]
  have := this M []
  simpa [List.range_eq_range'] using this
theorem isum_seen (f : ST → Nat) (M : List (ST × Nat)) (S : List Nat) (h1 : S.Nodup) (h2 : ∀ i ∈ S, i < M.length) (h3 : ∀ i, i < M.length → i ∈ S) : isum f M S = wsum f M := by
  rw [← isum_all]
  refine isum_perm f M ((List.perm_ext_iff_of_nodup h1 List.nodup_range).2 fun i => ?_)
  rw [List.mem_range]
  exact ⟨h2 i, h3 i⟩
theorem isum_le (M : List (ST × Nat)) (S : List Nat) (h1 : S.Nodup) (h2 : ∀ i ∈ S, i < M.length) : isum (fun _ => 1) M S ≤ wsum (fun _ => 1) M := by
  -- the places that are left
  have hp : (S ++ (List.range M.length).filter fun i => !S.contains i).Perm (List.range M.length) := by
    refine (List.perm_ext_iff_of_nodup ?_ List.nodup_range).2 fun i => ?_
    · refine List.nodup_append.2 ⟨h1, List.nodup_range.filter _, ?_⟩
      intro a ha b hb e
      subst e
      simp at hb
      exact hb.2 ha
    · simp only [List.mem_append, List.mem_filter, List.mem_range]
      constructor
      · rintro (h | h)
        · exact h2 i h
        · exact h.1
      · intro h
        by_cases hi : i ∈ S
        · exact .inl hi
        · exact .inr ⟨h, by simpa using hi⟩
  have := isum_perm (fun _ => 1) M hp
  rw [isum_append, isum_all] at this
  omega
end Go.Proofs.Ythelnggbcgjbcaa
