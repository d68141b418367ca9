/-
  The table of known sets: a map with numbers as keys.
-/
import Derived.Test.YthlgdakdjikjhaaDoorSMap
import Derived.Test.YthlgdakdjikjhaaDoorD
import Derived.Test.YthlgdakdjikjhaaDoorBfs
namespace Go.Proofs.YthlgdakdjikjhaaDoor
open Go.RowKit Go.ChangeMaps

theorem find_nat (a : Nat) : ∀ (l : List (Nat × Value)) (i : Nat), Instr.findNow (.int .i64) (natV a) (ents natV l i) i = some (fnd a l i) := by
  intro l
  induction l with
  | nil => intro i; rfl
  | cons p r ih =>
    intro i
    obtain ⟨b, v⟩ := p
    simp only [ents, fnd, Instr.findNow, natV, Instr.sameNow, if_true]
    by_cases h : a = b
    · subst h; simp
    · have : ((a : Int) == (b : Int)) = false := beq_eq_false_iff_ne.2 (by omega)
      rw [this, if_neg h]
      exact ih (i + 1)
theorem kt75 : KT Tryd.prog 75 natV where
  check em a w := MapKept.run_checkKey Tryd.underlying75 (show MapKept.IsKey (.int .i64) (.int .i64 (a : Int)) from rfl) em 9999
  find a l w := MapKept.run_findKey Tryd.underlying75 (find_nat a l 0)
  same a := by simp [natV, Instr.sameBits]
/-- A step, as the program keeps it. -/
def stepV (e : Ent) : Value := .agg #[.int .i64 (e.frm : Int), .int .u8 (e.btn : Int)]
def knownL (L : List Ent) : List (Nat × Value) := L.map fun e => (e.set, stepV e)
theorem known_none (L : List Ent) (y : Nat) : ∀ (i : Nat), L.any (fun e => e.set == y) = false → fnd y (knownL L) i = none := by
  induction L with
  | nil => intro i _; rfl
  | cons e L ih =>
    intro i h
    simp only [List.any_cons, Bool.or_eq_false_iff, beq_eq_false_iff_ne] at h
    simp only [knownL, List.map_cons, fnd]
    rw [if_neg (fun e => h.1 e.symm)]
    exact ih _ h.2
theorem known_some {L : List Ent} (hn : (L.map (·.set)).Nodup) : ∀ (j i : Nat) (e : Ent), L[j]? = some e → fnd e.set (knownL L) i = some (i + j, stepV e) := by
  induction L with
  | nil => intro j i e h; simp at h
  | cons x L ih =>
    intro j i e h
    rw [List.map_cons, List.nodup_cons] at hn
    simp only [knownL, List.map_cons, fnd]
    cases j with
    | zero => simp only [List.getElem?_cons_zero, Option.some.injEq] at h; subst h; simp
    | succ j =>
      simp only [List.getElem?_cons_succ] at h
      have hne : e.set ≠ x.set := fun he => hn.1 (by rw [← he]; exact List.mem_map_of_mem (List.mem_of_getElem? h))
      rw [if_neg hne]
      have := ih hn.2 j (i + 1) e h
      rw [show i + 1 + j = i + (j + 1) by omega] at this
      exact this
theorem zero100 (w : World) : (zeroValue 100).run Tryd.prog w = .ok (.agg #[.int .i64 0, .int .u8 0]) w := by kernel_rfl
theorem look_new {w : World} {bm : Nat} {L : List Ent} (h : MapIs natV w bm (knownL L)) (y : Nat) (hy : L.any (fun e => e.set == y) = false) :
    (Instr.lookup 101 (.map (some bm)) (.int .i64 (y : Int)) true).run Tryd.prog w = .ok (.tuple #[.agg #[.int .i64 0, .int .u8 0], .bool false]) w := by
  have := h.look kt75 Tryd.underlying101 (zero100 w) y true
  unfold get at this
  rw [known_none L y 0 hy] at this
  exact this
theorem look_old {w : World} {bm : Nat} {L : List Ent} (h : MapIs natV w bm (knownL L)) (hn : (L.map (·.set)).Nodup) (j : Nat) (e : Ent) (he : L[j]? = some e) (c : Bool) :
    (Instr.lookup 101 (.map (some bm)) (.int .i64 (e.set : Int)) c).run Tryd.prog w = .ok (if c then .tuple #[stepV e, .bool true] else stepV e) w := by
  have := h.look kt75 Tryd.underlying101 (zero100 w) e.set c
  unfold get at this
  rw [known_some hn j 0 e he] at this
  cases c <;> exact this
theorem store_new {w : World} {bm : Nat} {L : List Ent} (h : MapIs natV w bm (knownL L)) (e : Ent) (hy : L.any (fun x => x.set == e.set) = false) :
    ∃ w', (Instr.mapUpdate 101 (.map (some bm)) (.int .i64 (e.set : Int)) (.agg #[.int .i64 (e.frm : Int), .int .u8 (e.btn : Int)])).run Tryd.prog w = .ok () w' ∧ MapIs natV w' bm (knownL (L ++ [e])) ∧ ∃ o, w' = setBlock w bm o := by
  obtain ⟨w', h1, h2, h3⟩ := h.store kt75 Tryd.underlying101 e.set (stepV e)
  refine ⟨w', h1, ?_, h3⟩
  rw [ents_fnd_none e.set (knownL L) 0 (known_none L _ 0 hy)] at h2
  simpa [knownL] using h2
theorem any_old {L : List Ent} {y : Nat} (h : L.any (fun e => e.set == y) = true) : ∃ (j : Nat) (e : Ent), L[j]? = some e ∧ e.set = y := by
  obtain ⟨e, he, hy⟩ := List.any_eq_true.1 h
  obtain ⟨j, hj⟩ := List.getElem?_of_mem he
  exact ⟨j, e, hj, beq_iff_eq.1 hy⟩
/-! Images are not empty. -/
theorem prF_ge (s : Nat) : ∀ (r : List Nat) (q out : Nat), out ≠ 0 → prF s r q out ≠ 0 := by
  intro r
  induction r with
  | nil => intro q out h; exact h
  | cons p r ih =>
    intro q out h
    rw [prF]
    refine ih _ _ ?_
    split
    · intro h2
      have := Nat.left_le_or (n := out) (m := 2 ^ p)
      omega
    · exact h
theorem prF_ne (s : Nat) : ∀ (r : List Nat) (q out i : Nat), i < r.length → s.testBit (q + i) = true → prF s r q out ≠ 0 := by
  intro r
  induction r with
  | nil => intro q out i h; simp at h
  | cons p r ih =>
    intro q out i hi ht
    rw [prF]
    cases i with
    | zero =>
      rw [Nat.add_zero] at ht
      rw [if_pos ht]
      refine prF_ge s r _ _ ?_
      intro h2
      have := Nat.right_le_or (n := out) (m := 2 ^ p)
      have := Nat.two_pow_pos p
      omega
    | succ i => exact ih _ _ i (by simpa using hi) (by rw [show q + 1 + i = q + (i + 1) by omega]; exact ht)
theorem press_ne {M : List (List Nat)} (hM : OkM M) {s b : Nat} (hs : s ≠ 0) (h2 : s < 2 ^ nst M) (hb : b < M.length) : press M s b ≠ 0 := by
  obtain ⟨i, hi⟩ := Nat.exists_testBit_of_ne_zero hs
  have hin : i < nst M := by
    rcases Nat.lt_or_ge i (nst M) with h | h
    · exact h
    · rw [Nat.testBit_lt_two_pow (Nat.lt_of_lt_of_le h2 (Nat.pow_le_pow_right (by omega) h))] at hi; cases hi
  refine prF_ne s _ 0 0 i ?_ (by rw [Nat.zero_add]; exact hi)
  rw [hM.row _ (getD_mem hb)]; exact hin
theorem Good.ne {M : List (List Nat)} {s : Nat} {L : List Ent} (h : Good M s L) (hM : OkM M) (hs : s ≠ 0) : ∀ (i : Nat) (e : Ent), L[i]? = some e → e.set ≠ 0 := by
  intro i
  induction i using Nat.strongRecOn with
  | _ i ih =>
    intro e he
    rcases Nat.eq_zero_or_pos i with h0 | h0
    · subst h0; rw [h.head] at he; cases he; exact hs
    · obtain ⟨j, p, h1, h2, -, -, h3, h4, h5⟩ := h.par i e he h0
      rw [h5]
      exact press_ne hM (ih j h1 p h2) (h.lt p (List.mem_of_getElem? h2)) (by omega)
end Go.Proofs.YthlgdakdjikjhaaDoor
