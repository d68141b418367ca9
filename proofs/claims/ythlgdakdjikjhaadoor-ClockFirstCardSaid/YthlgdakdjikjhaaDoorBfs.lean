/-
  The search in breadth: what the lists hold. No program.
-/
import Derived.Test.YthlgdakdjikjhaaDoorPure
namespace Go.Proofs.YthlgdakdjikjhaaDoor

theorem nodup_len : ∀ (k : Nat) (l : List Nat), l.Nodup → (∀ x ∈ l, x < k) → l.length ≤ k := by
  intro k
  induction k with
  | zero =>
    intro l _ h
    cases l with
    | nil => exact Nat.le_refl _
    | cons a l => exact absurd (h a (List.mem_cons_self ..)) (by omega)
  | succ k ih =>
    intro l hn h
    have h1 := ih (l.erase k) (hn.erase k) fun x hx => by
      have h2 := (hn.mem_erase_iff).1 hx
      have := h x h2.2
      have := h2.1
      omega
    rw [List.length_erase] at h1
    split at h1 <;> omega

/-- What the list of reached sets is like. -/
structure Good (M : List (List Nat)) (s : Nat) (L : List Ent) : Prop where
  head : L[0]? = some ⟨s, [], 0, 0⟩
  nodup : (L.map (·.set)).Nodup
  lt : ∀ e ∈ L, e.set < 2 ^ nst M
  par : ∀ (i : Nat) (e : Ent), L[i]? = some e → 1 ≤ i → ∃ (j : Nat) (p : Ent), j < i ∧ L[j]? = some p ∧ e.frm = p.set ∧ e.word = p.word ++ [UInt8.ofNat e.btn] ∧ 97 ≤ e.btn ∧ e.btn < 97 + M.length ∧ e.set = press M p.set (e.btn - 97)

theorem Good.start (M : List (List Nat)) (s : Nat) (hs : s < 2 ^ nst M) : Good M s [⟨s, [], 0, 0⟩] where
  head := rfl
  nodup := by simp
  lt := by simpa using hs
  par := fun i e h hi => by
    cases i with
    | zero => omega
    | succ i => simp at h
theorem Good.len {M : List (List Nat)} {s : Nat} {L : List Ent} (h : Good M s L) (hM : OkM M) : L.length ≤ 512 := by
  have h1 := nodup_len (2 ^ nst M) (L.map (·.set)) h.nodup fun x hx => by
    obtain ⟨e, he, rfl⟩ := List.mem_map.1 hx
    exact h.lt e he
  rw [List.length_map] at h1
  have h2 : 2 ^ nst M ≤ 2 ^ 9 := Nat.pow_le_pow_right (by omega) hM.n9
  have h3 : (2 : Nat) ^ 9 = 512 := rfl
  omega
theorem Good.pos {M : List (List Nat)} {s : Nat} {L : List Ent} (h : Good M s L) : 0 < L.length := by
  have := h.head
  cases L with
  | nil => simp at this
  | cons => simp
theorem any_set (L : List Ent) (y : Nat) : L.any (fun e => e.set == y) = true ↔ y ∈ L.map (·.set) := by
  simp only [List.any_eq_true, beq_iff_eq, List.mem_map]
theorem Good.grow1 {M : List (List Nat)} {s : Nat} {L : List Ent} (h : Good M s L) (hM : OkM M) {j b : Nat} {x : Ent} (hj : L[j]? = some x) (hb : b < M.length) : Good M s (grow1 M x L b) := by
  have hjl : j < L.length := (List.getElem?_eq_some_iff.1 hj).1
  unfold YthlgdakdjikjhaaDoor.grow1
  cases ha : L.any (fun e => e.set == press M x.set b) with
  | true => simpa using h
  | false =>
    simp only [Bool.false_eq_true, if_false]
    have hnew : press M x.set b ∉ L.map (·.set) := fun hm => by rw [(any_set L _).2 hm] at ha; cases ha
    refine ⟨?_, ?_, ?_, ?_⟩
    · rw [List.getElem?_append_left h.pos]; exact h.head
    · rw [List.map_append, List.nodup_append]
      refine ⟨h.nodup, by simp, fun a ha b hb => ?_⟩
      simp only [List.map_cons, List.map_nil, List.mem_singleton] at hb
      subst hb
      intro e; subst e; exact hnew ha
    · intro e he
      rcases List.mem_append.1 he with he | he
      · exact h.lt e he
      · simp only [List.mem_singleton] at he; subst he; exact press_lt hM _ _
    · intro i e hi h1
      rcases Nat.lt_or_ge i L.length with hl | hl
      · rw [List.getElem?_append_left hl] at hi
        obtain ⟨j, p, a1, a2, a3⟩ := h.par i e hi h1
        exact ⟨j, p, a1, by rw [List.getElem?_append_left (by omega)]; exact a2, a3⟩
      · rw [List.getElem?_append_right hl] at hi
        have h0 : i - L.length = 0 := by
          rcases Nat.eq_zero_or_pos (i - L.length) with h0 | h0
          · exact h0
          · rw [List.getElem?_eq_none (by simp; omega)] at hi; cases hi
        rw [h0] at hi
        simp only [List.getElem?_cons_zero, Option.some.injEq] at hi
        subst hi
        exact ⟨j, x, by omega, by rw [List.getElem?_append_left hjl]; exact hj, rfl, rfl, by simp, by simp; omega, by simp⟩
theorem grow1_app (M : List (List Nat)) (x : Ent) (L : List Ent) (b : Nat) : ∃ T, grow1 M x L b = L ++ T := by
  unfold grow1; split
  · exact ⟨[], by simp⟩
  · exact ⟨_, rfl⟩
theorem growF_app (M : List (List Nat)) (x : Ent) : ∀ (k b : Nat) (L : List Ent), ∃ T, growF M x k b L = L ++ T := by
  intro k
  induction k with
  | zero => intro b L; exact ⟨[], by simp [growF]⟩
  | succ k ih =>
    intro b L
    obtain ⟨T, hT⟩ := grow1_app M x L b
    obtain ⟨U, hU⟩ := ih (b + 1) (grow1 M x L b)
    exact ⟨T ++ U, by rw [growF, hU, hT, List.append_assoc]⟩
theorem app_at {L T : List Ent} {j : Nat} {x : Ent} (h : L[j]? = some x) : (L ++ T)[j]? = some x := by
  rw [List.getElem?_append_left (List.getElem?_eq_some_iff.1 h).1]; exact h
theorem Good.growF {M : List (List Nat)} {s : Nat} (hM : OkM M) {j : Nat} {x : Ent} : ∀ (k b : Nat) (L : List Ent), Good M s L → L[j]? = some x → b + k ≤ M.length → Good M s (growF M x k b L) := by
  intro k
  induction k with
  | zero => intro b L h _ _; exact h
  | succ k ih =>
    intro b L h hj hb
    obtain ⟨T, hT⟩ := grow1_app M x L b
    refine ih (b + 1) _ (h.grow1 hM hj (by omega)) ?_ (by omega)
    rw [hT]; exact app_at hj
theorem bfsF_app (M : List (List Nat)) : ∀ (f i : Nat) (L : List Ent), ∃ T, bfsF M f i L = L ++ T := by
  intro f
  induction f with
  | zero => intro i L; exact ⟨[], by simp [bfsF]⟩
  | succ f ih =>
    intro i L
    rw [bfsF]
    cases h : L[i]? with
    | none => exact ⟨[], by simp⟩
    | some x =>
      obtain ⟨T, hT⟩ := growF_app M x M.length 0 L
      obtain ⟨U, hU⟩ := ih (i + 1) (YthlgdakdjikjhaaDoor.growF M x M.length 0 L)
      exact ⟨T ++ U, by simp only []; rw [hU, hT, List.append_assoc]⟩
theorem Good.bfsF {M : List (List Nat)} {s : Nat} (hM : OkM M) : ∀ (f i : Nat) (L : List Ent), Good M s L → Good M s (bfsF M f i L) := by
  intro f
  induction f with
  | zero => intro i L h; exact h
  | succ f ih =>
    intro i L h
    rw [YthlgdakdjikjhaaDoor.bfsF]
    cases hi : L[i]? with
    | none => exact h
    | some x => exact ih (i + 1) _ (h.growF hM M.length 0 L hi (by omega))
theorem reach_good {M : List (List Nat)} (hM : OkM M) {s : Nat} (hs : s < 2 ^ nst M) : Good M s (reach M s) := Good.bfsF hM _ _ _ (Good.start M s hs)
theorem bfsF_step {M : List (List Nat)} {f i : Nat} {L : List Ent} {x : Ent} (h : L[i]? = some x) : bfsF M (f + 1) i L = bfsF M f (i + 1) (growF M x M.length 0 L) := by
  rw [bfsF, h]
theorem bfsF_end {M : List (List Nat)} {f i : Nat} {L : List Ent} (h : L.length ≤ i) : bfsF M f i L = L := by
  cases f with
  | zero => rfl
  | succ f => rw [bfsF, List.getElem?_eq_none h]
end Go.Proofs.YthlgdakdjikjhaaDoor
