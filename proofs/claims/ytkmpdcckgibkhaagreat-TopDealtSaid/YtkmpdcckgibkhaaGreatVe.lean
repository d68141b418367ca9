/-
  The map of the parts of a longer list, as it grows: no program.
-/
import Derived.Test.YtkmpdcckgibkhaaGreatVd
import Derived.Test.YtkmpdcckgibkhaaGreatOM
namespace Go.Proofs.YtkmpdcckgibkhaaGreat
open Go.RowKit Go.ChangeMaps

/-- What the new map has when some entries of the old one have been visited. -/
def RStep (n x : Int) (L : List Int) (M1 : List ((Int × Int × Int) × Value)) (seen : List Nat) (M0 : List ((Int × Int × Int) × Value)) : Prop :=
  (∀ p ∈ M0, p.2 = .bool true ∧ ∃ (m : Nat) (s : Int), p.1 = ((m : Int), s, 0) ∧ Rch n (x :: L) m s) ∧
  ∀ j ∈ seen, ∀ (m : Nat) (s : Int) (v : Value), M1[j]? = some (((m : Int), s, 0), v) → get ((m : Int), s, (0 : Int)) M0 = some (.bool true) ∧ get (((m + 1 : Nat) : Int), (s + x) % n, (0 : Int)) M0 = some (.bool true)
theorem RStep.start (n x : Int) (L : List Int) (M1 : List ((Int × Int × Int) × Value)) : RStep n x L M1 [] [] := ⟨(fun p hp => by cases hp), (fun j hj => by cases hj)⟩
theorem put_mem {α : Type} [DecidableEq α] (a : α) (u : Value) : ∀ (l : List (α × Value)) (p : α × Value), p ∈ put a u l → p = (a, u) ∨ p ∈ l := by
  intro l
  induction l with
  | nil => intro p hp; exact .inl (by simpa [put] using hp)
  | cons q l ih =>
    intro p hp
    obtain ⟨b, v⟩ := q
    simp only [put] at hp
    by_cases e : a = b
    · subst e
      rw [if_pos rfl] at hp
      rcases List.mem_cons.1 hp with h | h
      · exact .inl h
      · exact .inr (List.mem_cons_of_mem _ h)
    · rw [if_neg e] at hp
      rcases List.mem_cons.1 hp with h | h
      · exact .inr (by rw [h]; exact List.mem_cons_self)
      · rcases ih p h with h | h
        · exact .inl h
        · exact .inr (List.mem_cons_of_mem _ h)
theorem get_put_true {α : Type} [DecidableEq α] (a b : α) (l : List (α × Value)) (h : get b l = some (.bool true)) : get b (put a (.bool true) l) = some (.bool true) := by
  rw [get_put]
  split
  · rfl
  · exact h
theorem RStep.step {n x : Int} {L : List Int} {M1 M0 : List ((Int × Int × Int) × Value)} {seen : List Nat} (h : RStep n x L M1 seen M0) (j m : Nat) (s : Int) (hj : M1[j]? = some (((m : Int), s, 0), .bool true)) (hr : Rch n L m s) :
    RStep n x L M1 (seen ++ [j]) (put (((m + 1 : Nat) : Int), (s + x) % n, (0 : Int)) (.bool true) (put ((m : Int), s, (0 : Int)) (.bool true) M0)) := by
  refine ⟨fun p hp => ?_, fun j' hj' m' s' v hm => ?_⟩
  · rcases put_mem _ _ _ _ hp with rfl | hp
    · exact ⟨rfl, m + 1, (s + x) % n, rfl, (Rch.cons n x L _ _).2 (.inr ⟨m, s, rfl, rfl, hr⟩)⟩
    · rcases put_mem _ _ _ _ hp with rfl | hp
      · exact ⟨rfl, m, s, rfl, (Rch.cons n x L _ _).2 (.inl hr)⟩
      · exact h.1 p hp
  · rcases List.mem_append.1 hj' with hj' | hj'
    · obtain ⟨h1, h2⟩ := h.2 j' hj' m' s' v hm
      exact ⟨get_put_true _ _ _ (get_put_true _ _ _ h1), get_put_true _ _ _ (get_put_true _ _ _ h2)⟩
    · rw [List.mem_singleton] at hj'
      subst hj'
      rw [hj] at hm
      simp only [Option.some.injEq, Prod.mk.injEq] at hm
      obtain ⟨⟨h1, rfl, -⟩, -⟩ := hm
      have h2 : m = m' := by omega
      subst h2
      refine ⟨get_put_true _ _ _ ?_, ?_⟩
      · rw [get_put, if_pos rfl]
      · rw [get_put, if_pos rfl]
theorem RStep.done {n x : Int} {L : List Int} {M1 M0 : List ((Int × Int × Int) × Value)} {seen : List Nat} (h : RStep n x L M1 seen M0) (h1 : RMap n L M1) (hall : ∀ k, k < M1.length → k ∈ seen) : RMap n (x :: L) M0 := by
  refine ⟨h.1, fun m s hr => ?_⟩
  have look : ∀ (m : Nat) (s : Int), Rch n L m s → get ((m : Int), s, (0 : Int)) M0 = some (.bool true) ∧ get (((m + 1 : Nat) : Int), (s + x) % n, (0 : Int)) M0 = some (.bool true) := by
    intro m s hr
    have hm := get_mem _ _ _ (h1.2 m s hr)
    obtain ⟨j, hj⟩ := List.getElem?_of_mem hm
    exact h.2 j (hall j (List.getElem?_eq_some_iff.1 hj).1) m s _ hj
  rcases (Rch.cons n x L m s).1 hr with hr1 | ⟨m', s', rfl, rfl, hr2⟩
  · exact (look m s hr1).1
  · exact (look m' s' hr2).2
/-- Each entry of a map of parts. -/
theorem RMap.entry {n : Int} {L : List Int} {M : List ((Int × Int × Int) × Value)} (h : RMap n L M) (j : Nat) (a : Int × Int × Int) (v : Value) (hj : M[j]? = some (a, v)) : v = .bool true ∧ ∃ (m : Nat) (s : Int), a = ((m : Int), s, 0) ∧ Rch n L m s :=
  h.1 (a, v) (List.mem_of_getElem? hj)
theorem RMap.nil (n : Int) : RMap n [] [(((0 : Int), (0 : Int), (0 : Int)), .bool true)] := by
  refine ⟨fun p hp => ?_, fun m s hr => ?_⟩
  · rw [List.mem_singleton] at hp
    subst hp
    exact ⟨rfl, 0, 0, rfl, (Rch.nil n 0 0).2 ⟨rfl, rfl⟩⟩
  · obtain ⟨rfl, rfl⟩ := (Rch.nil n m s).1 hr
    rfl

end Go.Proofs.YtkmpdcckgibkhaaGreat
