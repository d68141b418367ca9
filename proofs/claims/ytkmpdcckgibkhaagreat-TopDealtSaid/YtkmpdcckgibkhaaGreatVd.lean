/-
  Maps with keys of a number and an element; which sums parts have.
-/
import Derived.Test.YtkmpdcckgibkhaaGreatVc
import Derived.Test.YtkmpdcckgibkhaaGreatL
namespace Go.Proofs.YtkmpdcckgibkhaaGreat
open Go.RowKit Go.ChangeMaps

def enc3 (x : Int × Int × Int) : Value := .agg #[.int .i64 x.1, .int .i64 x.2.1, .int .i64 x.2.2]
theorem eqi8 (a b : Int) (w : World) : (Op.equalIn 9998 3 (.int .i64 a) (.int .i64 b)).run Tryz.prog w = .ok (a == b) w :=
  run_equalIn_int w 9997 3 .i64 .i64 a b Tryz.underlying3
theorem eq57 (a0 a1 b0 b1 : Int) (w : World) : (Op.equalIn 9999 57 (.agg #[.int .i64 a0, .int .i64 a1]) (.agg #[.int .i64 b0, .int .i64 b1])).run Tryz.prog w = .ok (a0 == b0 && a1 == b1) w := by
  have hu : ∀ w, (underlying 57).run Tryz.prog w = .ok (.array 2 3) w := fun w => Tryz.runUnderlying57 w
  have hs : ∀ w, (sizeOf 3).run Tryz.prog w = .ok 1 w := fun w => Tryz.sizeOf3 w
  have hg : ∀ w, (isAgg 3).run Tryz.prog w = .ok false w := fun w => Tryz.isAgg3 w
  rw [show (9999 : Nat) = 9998 + 1 from rfl, Op.equalIn]
  simp [hu, Sem.run_bind, go_sem, hs, List.range'_succ, hg, eqi8]
  by_cases h0 : a0 = b0 <;> by_cases h1 : a1 = b1 <;> simp [h0, h1, go_sem]
theorem chk57 (em : Bool) (a0 a1 : Int) (w : World) : (Instr.checkKey em 9999 57 (.agg #[.int .i64 a0, .int .i64 a1])).run Tryz.prog w = .ok () w := by
  have hu : ∀ w, (underlying 57).run Tryz.prog w = .ok (.array 2 3) w := fun w => Tryz.runUnderlying57 w
  have hs : ∀ w, (sizeOf 3).run Tryz.prog w = .ok 1 w := fun w => Tryz.sizeOf3 w
  have hg : ∀ w, (isAgg 3).run Tryz.prog w = .ok false w := fun w => Tryz.isAgg3 w
  have hk : ∀ (x : Int) (w : World), (Instr.checkKey em 9998 3 (.int .i64 x)).run Tryz.prog w = .ok () w := fun x w => MapKept.run_checkKey Tryz.underlying3 (show MapKept.IsKey (.int .i64) (.int .i64 x) from rfl) em 9997
  rw [show (9999 : Nat) = 9998 + 1 from rfl, Instr.checkKey]
  simp [hu, Sem.run_bind, go_sem, hs, List.range'_succ, hg, hk]
theorem kt65 : KT Tryz.prog 65 enc3 := by
  refine KT.wide (by simp [Tryz.underlying65]) ?_ ?_ ?_
  · rintro ⟨a0, a1, a2⟩ ⟨b0, b1, b2⟩ w
    have hu : ∀ w, (underlying 65).run Tryz.prog w = .ok _ w := fun w => Tryz.runUnderlying65 w
    have hs : ∀ w, (sizeOf 3).run Tryz.prog w = .ok 1 w := fun w => Tryz.sizeOf3 w
    have hg : ∀ w, (isAgg 3).run Tryz.prog w = .ok false w := fun w => Tryz.isAgg3 w
    have hs2 : ∀ w, (sizeOf 57).run Tryz.prog w = .ok 2 w := fun w => Tryz.sizeOf57 w
    have hg2 : ∀ w, (isAgg 57).run Tryz.prog w = .ok true w := fun w => Tryz.isAgg57 w
    rw [Op.equal, show Op.maxDepth = 9999 + 1 from rfl, Op.equalIn]
    simp [enc3, hu, Sem.run_bind, go_sem, hs, hg, hs2, hg2, eqi, eq57]
    by_cases h0 : a0 = b0 <;> by_cases h1 : a1 = b1 <;> by_cases h2 : a2 = b2 <;> simp [h0, h1, h2]
  · rintro em ⟨a0, a1, a2⟩ w
    have hu : ∀ w, (underlying 65).run Tryz.prog w = .ok _ w := fun w => Tryz.runUnderlying65 w
    have hs : ∀ w, (sizeOf 3).run Tryz.prog w = .ok 1 w := fun w => Tryz.sizeOf3 w
    have hg : ∀ w, (isAgg 3).run Tryz.prog w = .ok false w := fun w => Tryz.isAgg3 w
    have hs2 : ∀ w, (sizeOf 57).run Tryz.prog w = .ok 2 w := fun w => Tryz.sizeOf57 w
    have hg2 : ∀ w, (isAgg 57).run Tryz.prog w = .ok true w := fun w => Tryz.isAgg57 w
    have hk : ∀ (x : Int) (w : World), (Instr.checkKey em 9999 3 (.int .i64 x)).run Tryz.prog w = .ok () w := fun x w => MapKept.run_checkKey Tryz.underlying3 (show MapKept.IsKey (.int .i64) (.int .i64 x) from rfl) em 9998
    rw [show (10000 : Nat) = 9999 + 1 from rfl, Instr.checkKey]
    simp [enc3, hu, Sem.run_bind, go_sem, hs, hg, hs2, hg2, hk, chk57]
  · rintro ⟨a0, a1, a2⟩
    simp [enc3, Instr.sameBits]

/-- A part of so many numbers with a sum. -/
def Rch (n : Int) (L : List Int) (m : Nat) (s : Int) : Prop := ∃ T : List Int, T.Sublist L ∧ T.length = m ∧ T.sum % n = s
theorem Rch.nil (n : Int) (m : Nat) (s : Int) : Rch n [] m s ↔ m = 0 ∧ s = 0 := by
  constructor
  · rintro ⟨T, h1, h2, h3⟩
    have : T = [] := List.sublist_nil.1 h1
    subst this
    simp at h2 h3
    exact ⟨h2.symm, h3.symm⟩
  · rintro ⟨rfl, rfl⟩
    exact ⟨[], List.Sublist.refl _, rfl, by simp⟩
theorem Rch.cons (n x : Int) (L : List Int) (m : Nat) (s : Int) : Rch n (x :: L) m s ↔ Rch n L m s ∨ ∃ m' s', m = m' + 1 ∧ s = (s' + x) % n ∧ Rch n L m' s' := by
  constructor
  · rintro ⟨T, h1, h2, h3⟩
    rcases List.sublist_cons_iff.1 h1 with h | ⟨T', rfl, h⟩
    · exact .inl ⟨T, h, h2, h3⟩
    · refine .inr ⟨T'.length, T'.sum % n, by simpa using h2.symm, ?_, T', h, rfl, rfl⟩
      rw [← h3, List.sum_cons, Int.add_comm x, Int.emod_add_emod]
  · rintro (⟨T, h1, h2, h3⟩ | ⟨m', s', rfl, rfl, T, h1, h2, h3⟩)
    · exact ⟨T, List.Sublist.cons _ h1, h2, h3⟩
    · refine ⟨x :: T, List.Sublist.cons_cons _ h1, by simp [h2], ?_⟩
      rw [List.sum_cons, ← h3, Int.emod_add_emod, Int.add_comm]
theorem Rch.range {n : Int} {L : List Int} {m : Nat} {s : Int} (h : Rch n L m s) (hn : 0 < n) : 0 ≤ s ∧ s < n ∧ m ≤ L.length := by
  obtain ⟨T, h1, h2, h3⟩ := h
  subst h3
  exact ⟨Int.emod_nonneg _ (by omega), Int.emod_lt_of_pos _ hn, h2 ▸ h1.length_le⟩
theorem Rch.mono {n : Int} {L L' : List Int} {m : Nat} {s : Int} (h : Rch n L m s) (hl : L.Sublist L') : Rch n L' m s := by
  obtain ⟨T, h1, h2, h3⟩ := h
  exact ⟨T, h1.trans hl, h2, h3⟩

/-- The map of the parts of a list. -/
def RMap (n : Int) (L : List Int) (M : List ((Int × Int × Int) × Value)) : Prop :=
  (∀ (p : (Int × Int × Int) × Value), p ∈ M → p.2 = .bool true ∧ ∃ (m : Nat) (s : Int), p.1 = ((m : Int), s, 0) ∧ Rch n L m s) ∧ ∀ (m : Nat) (s : Int), Rch n L m s → get ((m : Int), s, (0 : Int)) M = some (.bool true)
theorem fnd_mem {α : Type} [DecidableEq α] (a : α) : ∀ (l : List (α × Value)) (i : Nat) (q : Nat × Value), fnd a l i = some q → (a, q.2) ∈ l := by
  intro l
  induction l with
  | nil => intro i q h; cases h
  | cons p l ih =>
    intro i q h
    obtain ⟨b, v⟩ := p
    simp only [fnd] at h
    by_cases e : a = b
    · subst e; rw [if_pos rfl] at h; cases h; exact List.mem_cons_self
    · rw [if_neg e] at h; exact List.mem_cons_of_mem _ (ih _ _ h)
theorem get_mem {α : Type} [DecidableEq α] (a : α) (l : List (α × Value)) (v : Value) (h : get a l = some v) : (a, v) ∈ l := by
  unfold get at h
  cases hf : fnd a l 0 with
  | none => rw [hf] at h; cases h
  | some q => rw [hf] at h; simp at h; subst h; exact fnd_mem a l 0 q hf
/-- What the map answers. -/
theorem RMap.answer {n : Int} {L : List Int} {M : List ((Int × Int × Int) × Value)} (h : RMap n L M) (m : Nat) (s : Int) [Decidable (Rch n L m s)] : (get ((m : Int), s, (0 : Int)) M).getD (.bool false) = .bool (decide (Rch n L m s)) := by
  by_cases hr : Rch n L m s
  · rw [h.2 m s hr, decide_eq_true hr]; rfl
  · rw [decide_eq_false hr]
    cases hg : get ((m : Int), s, (0 : Int)) M with
    | none => rfl
    | some v =>
      exfalso
      obtain ⟨-, m', s', he, hr'⟩ := h.1 _ (get_mem _ _ _ hg)
      simp only [Prod.mk.injEq] at he
      obtain ⟨h1, rfl, -⟩ := he
      have : m = m' := by omega
      subst this
      exact hr hr'

end Go.Proofs.YtkmpdcckgibkhaaGreat
