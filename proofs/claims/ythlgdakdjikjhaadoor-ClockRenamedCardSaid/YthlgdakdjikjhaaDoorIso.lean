/-
  Renamings of the states of a machine: plain definitions and laws. No program.
-/
import Derived.Test.YthlgdakdjikjhaaDoorUB
namespace Go.Proofs.YthlgdakdjikjhaaDoor

/-- Do names of the first states not contradict each other at state q and button b? As the program asks. -/
def okA (M O : List (List Nat)) (L : List Nat) (b q : Nat) : Bool :=
  if stp M q b < L.length then L.getD (stp M q b) 0 == stp O (L.getD q 0) b else !L.contains (stp O (L.getD q 0) b)
def agreeB (M O : List (List Nat)) (L : List Nat) : Bool := (List.range M.length).all fun b => (List.range L.length).all fun q => okA M O L b q
/-- As the reference asks. -/
def okC (M O : List (List Nat)) (L : List Nat) (b q : Nat) : Bool := !decide (stp M q b < L.length) || L.getD (stp M q b) 0 == stp O (L.getD q 0) b
def consB (M O : List (List Nat)) (L : List Nat) : Bool := (List.range M.length).all fun b => (List.range L.length).all fun q => okC M O L b q
theorem agree_iff (M O : List (List Nat)) (L : List Nat) : agreeB M O L = true ↔ ∀ b q, b < M.length → q < L.length → okA M O L b q = true := by
  unfold agreeB
  simp only [List.all_eq_true, List.mem_range]
  exact ⟨fun h b q hb hq => h b hb q hq, fun h b hb q hq => h b q hb hq⟩
theorem cons_iff (M O : List (List Nat)) (L : List Nat) : consB M O L = true ↔ ∀ b q, b < M.length → q < L.length → okC M O L b q = true := by
  unfold consB
  simp only [List.all_eq_true, List.mem_range]
  exact ⟨fun h b q hb hq => h b hb q hq, fun h b hb q hq => h b q hb hq⟩
/-- The search for names, as the program does it. -/
def extF (M O : List (List Nat)) : Nat → List Nat → Bool
  | 0, L => decide (L.length = nst M)
  | f + 1, L => decide (L.length = nst M) || (List.range (nst M)).any fun q => !L.contains q && (agreeB M O (L ++ [q]) && extF M O f (L ++ [q]))
/-- As the reference does it. -/
def renF (M O : List (List Nat)) : Nat → List Nat → Bool
  | 0, L => consB M O L && decide (L.length = nst M)
  | f + 1, L => consB M O L && (decide (L.length = nst M) || (List.range (nst M)).any fun q => !L.contains q && renF M O f (L ++ [q]))
/-- Names of all states that turn one machine into the other. -/
structure Full (M O : List (List Nat)) (P : List Nat) : Prop where
  len : P.length = nst M
  nodup : P.Nodup
  lt : ∀ x ∈ P, x < nst M
  eq : ∀ b q, b < M.length → q < nst M → stp O (P.getD q 0) b = P.getD (stp M q b) 0
def Ext (M O : List (List Nat)) (L : List Nat) : Prop := ∃ T, Full M O (L ++ T)
theorem getD_app {L T : List Nat} {i : Nat} (h : i < L.length) : (L ++ T).getD i 0 = L.getD i 0 := by
  rw [List.getD, List.getD, List.getElem?_append_left h]
theorem Ext.cons {M O : List (List Nat)} (hM : OkM M) {L : List Nat} (h : Ext M O L) : consB M O L = true := by
  obtain ⟨T, h⟩ := h
  have hl := h.len
  rw [List.length_append] at hl
  rw [cons_iff]
  intro b q hb hq
  unfold okC
  by_cases hp : stp M q b < L.length
  · have := h.eq b q hb (by omega)
    rw [getD_app hq, getD_app hp] at this
    rw [this]; simp
  · rw [decide_eq_false hp]; rfl
theorem Ext.agree {M O : List (List Nat)} (hM : OkM M) {L : List Nat} (h : Ext M O L) : agreeB M O L = true := by
  obtain ⟨T, h⟩ := h
  have hl := h.len
  rw [List.length_append] at hl
  rw [agree_iff]
  intro b q hb hq
  have he := h.eq b q hb (by omega)
  rw [getD_app hq] at he
  unfold okA
  split
  · rename_i hp
    rw [getD_app hp] at he
    rw [he]; simp
  · rename_i hp
    have hpn := stp_lt hM hb (q := q) (by omega)
    have hnd := h.nodup
    rw [Bool.not_eq_true', ← Bool.not_eq_true, List.contains_iff_mem]
    intro hm
    rw [he] at hm
    obtain ⟨j, hj, hj2⟩ := List.getElem_of_mem hm
    have e1 : (L ++ T)[j]'(by rw [List.length_append]; omega) = (L ++ T)[stp M q b]'(by rw [List.length_append]; omega) := by
      rw [List.getElem_append_left hj, hj2, List.getD, List.getElem?_eq_getElem (by rw [List.length_append]; omega)]; rfl
    have := List.pairwise_iff_getElem.1 hnd j (stp M q b) (by rw [List.length_append]; omega) (by rw [List.length_append]; omega) (by omega)
    exact this e1
theorem okA_okC {M O : List (List Nat)} {L : List Nat} {b q : Nat} (h : okA M O L b q = true) : okC M O L b q = true := by
  unfold okA at h
  unfold okC
  split at h
  · rw [h]; simp
  · rename_i hp
    rw [decide_eq_false hp]; rfl
theorem agree_cons {M O : List (List Nat)} {L : List Nat} (h : agreeB M O L = true) : consB M O L = true := by
  rw [cons_iff]
  intro b q hb hq
  exact okA_okC ((agree_iff M O L).1 h b q hb hq)
theorem cons_full {M O : List (List Nat)} (hM : OkM M) {L : List Nat} (hl : L.length = nst M) (hn : L.Nodup) (hlt : ∀ x ∈ L, x < nst M) (h : consB M O L = true) : Ext M O L := by
  refine ⟨[], ?_⟩
  rw [List.append_nil]
  refine ⟨hl, hn, hlt, fun b q hb hq => ?_⟩
  have h1 := (cons_iff M O L).1 h b q hb (by omega)
  have hp := stp_lt hM hb hq
  unfold okC at h1
  rw [decide_eq_true (by omega)] at h1
  simp only [Bool.not_true, Bool.false_or, beq_iff_eq] at h1
  exact h1.symm
theorem Ext.next {M O : List (List Nat)} {L : List Nat} (h : Ext M O L) (hl : L.length ≠ nst M) : ∃ q, q < nst M ∧ q ∉ L ∧ Ext M O (L ++ [q]) := by
  obtain ⟨T, h⟩ := h
  cases T with
  | nil => rw [List.append_nil] at h; exact absurd h.len hl
  | cons q T =>
    have hnd := h.nodup
    rw [List.nodup_append] at hnd
    exact ⟨q, h.lt q (by simp), fun hm => hnd.2.2 q hm q (List.mem_cons_self ..) rfl, T, by rw [List.append_assoc]; exact h⟩
theorem Ext.prev {M O : List (List Nat)} {L : List Nat} {q : Nat} (h : Ext M O (L ++ [q])) : Ext M O L := by
  obtain ⟨T, h⟩ := h
  exact ⟨q :: T, by rw [List.append_assoc] at h; exact h⟩
theorem snoc_nodup {L : List Nat} {q : Nat} (h : L.Nodup) (hq : q ∉ L) : (L ++ [q]).Nodup := by
  rw [List.nodup_append]
  refine ⟨h, by simp, fun a ha b hb => ?_⟩
  rw [List.mem_singleton] at hb
  subst hb
  exact fun e => hq (e ▸ ha)
theorem snoc_lt {L : List Nat} {q n : Nat} (h : ∀ x ∈ L, x < n) (hq : q < n) : ∀ x ∈ L ++ [q], x < n := by
  intro x hx
  rcases List.mem_append.1 hx with hx | hx
  · exact h x hx
  · rw [List.mem_singleton] at hx; omega
theorem extF_iff {M O : List (List Nat)} (hM : OkM M) : ∀ (f : Nat) (L : List Nat), L.Nodup → (∀ x ∈ L, x < nst M) → L.length + f = nst M → agreeB M O L = true → (extF M O f L = true ↔ Ext M O L) := by
  intro f
  induction f with
  | zero =>
    intro L hn hlt hl ha
    rw [extF, decide_eq_true (by omega)]
    exact ⟨fun _ => cons_full hM (by omega) hn hlt (agree_cons ha), fun _ => rfl⟩
  | succ f ih =>
    intro L hn hlt hl ha
    rw [extF, decide_eq_false (by omega), Bool.false_or, List.any_eq_true]
    constructor
    · rintro ⟨q, hq, h⟩
      rw [List.mem_range] at hq
      simp only [Bool.and_eq_true, Bool.not_eq_true', ← Bool.not_eq_true, List.contains_iff_mem] at h
      have := (ih (L ++ [q]) (snoc_nodup hn h.1) (snoc_lt hlt hq) (by rw [List.length_append, List.length_singleton]; omega) h.2.1).1 h.2.2
      exact this.prev
    · intro h
      obtain ⟨q, hq, hqL, he⟩ := h.next (by omega)
      refine ⟨q, List.mem_range.2 hq, ?_⟩
      simp only [Bool.and_eq_true, Bool.not_eq_true', ← Bool.not_eq_true, List.contains_iff_mem]
      exact ⟨hqL, he.agree hM, (ih (L ++ [q]) (snoc_nodup hn hqL) (snoc_lt hlt hq) (by rw [List.length_append, List.length_singleton]; omega) (he.agree hM)).2 he⟩
theorem renF_iff {M O : List (List Nat)} (hM : OkM M) : ∀ (f : Nat) (L : List Nat), L.Nodup → (∀ x ∈ L, x < nst M) → L.length + f = nst M → (renF M O f L = true ↔ Ext M O L) := by
  intro f
  induction f with
  | zero =>
    intro L hn hlt hl
    rw [renF, decide_eq_true (by omega), Bool.and_true]
    exact ⟨fun h => cons_full hM (by omega) hn hlt h, fun h => h.cons hM⟩
  | succ f ih =>
    intro L hn hlt hl
    rw [renF, decide_eq_false (by omega), Bool.false_or, Bool.and_eq_true, List.any_eq_true]
    constructor
    · rintro ⟨-, q, hq, h⟩
      rw [List.mem_range] at hq
      simp only [Bool.and_eq_true, Bool.not_eq_true', ← Bool.not_eq_true, List.contains_iff_mem] at h
      have := (ih (L ++ [q]) (snoc_nodup hn h.1) (snoc_lt hlt hq) (by rw [List.length_append, List.length_singleton]; omega)).1 h.2
      exact this.prev
    · intro h
      refine ⟨h.cons hM, ?_⟩
      obtain ⟨q, hq, hqL, he⟩ := h.next (by omega)
      refine ⟨q, List.mem_range.2 hq, ?_⟩
      simp only [Bool.and_eq_true, Bool.not_eq_true', ← Bool.not_eq_true, List.contains_iff_mem]
      exact ⟨hqL, (ih (L ++ [q]) (snoc_nodup hn hqL) (snoc_lt hlt hq) (by rw [List.length_append, List.length_singleton]; omega)).2 he⟩
theorem agree_nil (M O : List (List Nat)) : agreeB M O [] = true := by
  rw [agree_iff]; intro b q _ hq; simp at hq
/-- Are two machines the same but for names? -/
def sameB (M O : List (List Nat)) : Bool := decide (M.length = O.length) && decide (nst M = nst O) && extF M O (nst M) []
theorem same_ref {M O : List (List Nat)} (hM : OkM M) : renF M O (nst M) [] = extF M O (nst M) [] := by
  have h1 := extF_iff (O := O) hM (nst M) [] List.nodup_nil (by simp) (by simp) (agree_nil M O)
  have h2 := renF_iff (O := O) hM (nst M) [] List.nodup_nil (by simp) (by simp)
  rw [Bool.eq_iff_iff, h1, h2]
theorem same_iff {M O : List (List Nat)} (hM : OkM M) : sameB M O = true ↔ M.length = O.length ∧ nst M = nst O ∧ ∃ P, Full M O P := by
  unfold sameB
  have h1 := extF_iff (O := O) hM (nst M) [] List.nodup_nil (by simp) (by simp) (agree_nil M O)
  rw [Bool.and_eq_true, Bool.and_eq_true, decide_eq_true_eq, decide_eq_true_eq, h1]
  constructor
  · rintro ⟨⟨a, b⟩, T, h⟩; exact ⟨a, b, T, h⟩
  · rintro ⟨a, b, P, h⟩; exact ⟨⟨a, b⟩, P, h⟩
end Go.Proofs.YthlgdakdjikjhaaDoor
