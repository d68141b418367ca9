/-
  Maps of counts: lists of keys and counts; sums over them. Walks: a table's permanent. 
-/
import Derived.Test.YtkmpdcckgibkhaaGreatF
namespace Go.Proofs.YtkmpdcckgibkhaaGreat
open Go.RowKit Go.ChangeMaps

section
variable {α : Type}
def vl (M : List (α × Nat)) : List (α × Value) := M.map fun p => (p.1, .int .i64 (p.2 : Int))
def cntM [DecidableEq α] (y : α) : List (α × Nat) → Nat
  | [] => 0
  | (x, c) :: r => if y = x then c else cntM y r
def addM [DecidableEq α] (y : α) (n : Nat) : List (α × Nat) → List (α × Nat)
  | [] => [(y, n)]
  | (x, c) :: r => if y = x then (x, c + n) :: r else (x, c) :: addM y n r
def wsum (f : α → Nat) : List (α × Nat) → Nat
  | [] => 0
  | (x, c) :: r => c * f x + wsum f r
theorem vl_len (M : List (α × Nat)) : (vl M).length = M.length := by simp [vl]
theorem get_vl [DecidableEq α] (y : α) (M : List (α × Nat)) : (get y (vl M)).getD (.int .i64 0) = .int .i64 (cntM y M : Int) := by
  unfold get
  have : ∀ (M : List (α × Nat)) (i : Nat), ((fnd y (vl M) i).map (·.2)).getD (.int .i64 0) = .int .i64 (cntM y M : Int) := by
    intro M
    induction M with
    | nil => intro i; rfl
    | cons p r ih =>
      intro i
      obtain ⟨x, c⟩ := p
      simp only [vl, List.map_cons, fnd, cntM]
      by_cases h : y = x
      · rw [if_pos h, if_pos h]; rfl
      · rw [if_neg h, if_neg h]; exact ih _
  exact this M 0
theorem put_vl [DecidableEq α] (y : α) (n : Nat) (M : List (α × Nat)) : put y (.int .i64 ((cntM y M + n : Nat) : Int)) (vl M) = vl (addM y n M) := by
  induction M with
  | nil => simp [vl, put, addM, cntM]
  | cons p r ih =>
    obtain ⟨x, c⟩ := p
    simp only [vl, List.map_cons, put, cntM, addM] at ih ⊢
    by_cases h : y = x
    · rw [if_pos h, if_pos h, if_pos h]; rfl
    · rw [if_neg h, if_neg h, if_neg h, ih]; rfl
theorem wsum_add [DecidableEq α] (f : α → Nat) (y : α) (n : Nat) (M : List (α × Nat)) : wsum f (addM y n M) = wsum f M + n * f y := by
  induction M with
  | nil => simp [addM, wsum]
  | cons p r ih =>
    obtain ⟨x, c⟩ := p
    simp only [addM]
    by_cases h : y = x
    · rw [if_pos h, wsum, wsum, h, Nat.add_mul]; omega
    · rw [if_neg h, wsum, wsum, ih]; omega
theorem cntM_le [DecidableEq α] (y : α) (M : List (α × Nat)) : cntM y M ≤ wsum (fun _ => 1) M := by
  induction M with
  | nil => simp [cntM]
  | cons p r ih =>
    obtain ⟨x, c⟩ := p
    simp only [cntM, wsum]
    split <;> omega
/-- A sum over some places of a map. -/
def isum (f : α → Nat) (M : List (α × Nat)) : List Nat → Nat
  | [] => 0
  | i :: r => (match M[i]? with | some p => p.2 * f p.1 | none => 0) + isum f M r
theorem isum_append (f : α → Nat) (M : List (α × Nat)) (a b : List Nat) : isum f M (a ++ b) = isum f M a + isum f M b := by
  induction a with
  | nil => simp [isum]
  | cons i r ih => simp only [List.cons_append, isum, ih]; omega
theorem isum_perm (f : α → Nat) (M : List (α × Nat)) {a b : List Nat} (h : a.Perm b) : isum f M a = isum f M b := by
  induction h with
  | nil => rfl
  | cons x _ ih => simp only [isum, ih]
  | swap x y l => simp only [isum]; omega
  | trans _ _ h1 h2 => exact h1.trans h2
theorem isum_all (f : α → Nat) (M : List (α × Nat)) : isum f M (List.range M.length) = wsum f M := by
  have : ∀ (M P : List (α × Nat)), isum f (P ++ M) (List.range' P.length M.length) = wsum f M := by
    intro M
    induction M with
    | nil => intro P; rfl
    | cons p r ih =>
      intro P
      have := ih (P ++ [p])
      simp only [List.append_assoc, List.singleton_append, List.length_append, List.length_cons, List.length_nil] at this
      simp only [List.length_cons, List.range'_succ, isum]
      rw [show P.length + 1 = P.length + (0 + 1) by omega, this]
      simp [wsum]
  have := this M []
  simpa [List.range_eq_range'] using this
theorem isum_seen (f : α → Nat) (M : List (α × Nat)) (S : List Nat) (h1 : S.Nodup) (h2 : ∀ i ∈ S, i < M.length) (h3 : ∀ i, i < M.length → i ∈ S) : isum f M S = wsum f M := by
  rw [← isum_all]
  refine isum_perm f M ((List.perm_ext_iff_of_nodup h1 List.nodup_range).2 fun i => ?_)
  rw [List.mem_range]
  exact ⟨h2 i, h3 i⟩
theorem isum_le (M : List (α × Nat)) (S : List Nat) (h1 : S.Nodup) (h2 : ∀ i ∈ S, i < M.length) : isum (fun _ => 1) M S ≤ wsum (fun _ => 1) M := by
  -- the places that are left
  have hp : (S ++ (List.range M.length).filter fun i => !S.contains i).Perm (List.range M.length) := by
    refine (List.perm_ext_iff_of_nodup ?_ List.nodup_range).2 fun i => ?_
    · refine List.nodup_append.2 ⟨h1, List.nodup_range.filter _, ?_⟩
      intro a ha b hb e
      subst e
      simp at hb
      exact hb.2 ha
    · simp only [List.mem_append, List.mem_filter, List.mem_range]
      constructor
      · rintro (h | h)
        · exact h2 i h
        · exact h.1
      · intro h
        by_cases hi : i ∈ S
        · exact .inl hi
        · exact .inr ⟨h, by simpa using hi⟩
  have := isum_perm (fun _ => 1) M hp
  rw [isum_append, isum_all] at this
  omega
end

/-- How many steps an iterator has made. -/
def seenN (w : World) (r : Nat) : Nat := match w.heap[r]? with | some (.mapIter _ _ seen _) => seen.size | _ => 0
theorem IterAt.seenN {w : World} {r b n : Nat} {seen : Array Nat} (h : IterAt w r b n seen) : seenN w r = seen.size := by
  unfold YtkmpdcckgibkhaaGreat.seenN IterAt at *
  rw [h]
theorem nodup_len (n : Nat) (S : List Nat) (h1 : S.Nodup) (h2 : ∀ i ∈ S, i < n) : S.length ≤ n := by
  have hp : (S ++ (List.range n).filter fun i => !S.contains i).Perm (List.range n) := by
    refine (List.perm_ext_iff_of_nodup ?_ List.nodup_range).2 fun i => ?_
    · refine List.nodup_append.2 ⟨h1, List.nodup_range.filter _, ?_⟩
      intro a ha b hb e
      subst e
      simp at hb
      exact hb.2 ha
    · simp only [List.mem_append, List.mem_filter, List.mem_range]
      constructor
      · rintro (h | h)
        · exact h2 i h
        · exact h.1
      · intro h
        by_cases hi : i ∈ S
        · exact .inl hi
        · exact .inr ⟨h, by simpa using hi⟩
  have := hp.length_eq
  rw [List.length_append, List.length_range] at this
  omega
theorem Blk.turned {w : World} {b k : Nat} {cs : Array Value} {t : TypeId} (h : Blk w b cs t) (hk : b ≠ k) (o : Obj) : Blk (setBlock w k o) b cs t := (setBlock_other b hk o).trans h

theorem zero3 (w : World) : (zeroValue 3).run Tryz.prog w = .ok (.int .i64 0) w := by kernel_rfl
def natV (x : Nat) : Value := .int .i64 (x : Int)
theorem find_nat (a : Nat) : ∀ (l : List (Nat × Value)) (i : Nat), Instr.findNow (.int .i64) (natV a) (ents natV l i) i = some (fnd a l i) := by
  intro l
  induction l with
  | nil => intro i; rfl
  | cons p r ih =>
    intro i
    obtain ⟨b, v⟩ := p
    simp only [ents, fnd, Instr.findNow, natV, Instr.sameNow, if_true]
    by_cases h : a = b
    · subst h; simp
    · have : ((a : Int) == (b : Int)) = false := beq_eq_false_iff_ne.2 (by omega)
      rw [this, if_neg h]
      exact ih (i + 1)
theorem kt3 : KT Tryz.prog 3 natV where
  check em a w := MapKept.run_checkKey Tryz.underlying3 (show MapKept.IsKey (.int .i64) (.int .i64 (a : Int)) from rfl) em 9999
  find a l w := MapKept.run_findKey Tryz.underlying3 (find_nat a l 0)
  same a := by simp [natV, Instr.sameBits]

end Go.Proofs.YtkmpdcckgibkhaaGreat
