/-
  Machines: plain definitions.
-/
namespace Go.Proofs.YthlgdakdjikjhaaDoor

/-- Lists of numbers are a machine. -/
def machineB (X : List (List Int)) : Bool :=
  decide (1 ≤ X.length) && decide (X.length ≤ 4) && decide (1 ≤ (X.headD []).length) && decide ((X.headD []).length ≤ 9) &&
  X.all fun r => r.length == (X.headD []).length && r.all fun q => decide (0 ≤ q) && decide (q < ((X.headD []).length : Int))
/-- How many states a machine has. -/
def nst (M : List (List Nat)) : Nat := (M.headD []).length
structure OkM (M : List (List Nat)) : Prop where
  b1 : 1 ≤ M.length
  b4 : M.length ≤ 4
  n1 : 1 ≤ nst M
  n9 : nst M ≤ 9
  row : ∀ r ∈ M, r.length = nst M
  lt : ∀ r ∈ M, ∀ q ∈ r, q < nst M
/-- The numbers of a machine, as the program has them. -/
def intM (M : List (List Nat)) : List (List Int) := M.map (·.map fun (x : Nat) => (x : Int))
theorem intM_length (M : List (List Nat)) : (intM M).length = M.length := by simp [intM]
theorem intM_head (M : List (List Nat)) : ((intM M).headD []).length = nst M := by
  cases M <;> simp [intM, nst]
theorem machine_ok (X : List (List Int)) (h : machineB X = true) : ∃ M, X = intM M ∧ OkM M := by
  simp only [machineB, Bool.and_eq_true, decide_eq_true_eq, List.all_eq_true, beq_iff_eq] at h
  obtain ⟨⟨⟨⟨h1, h2⟩, h3⟩, h4⟩, h5⟩ := h
  have hX : X = intM (X.map (·.map Int.toNat)) := by
    unfold intM
    rw [List.map_map]
    refine (List.map_id X).symm.trans (List.map_congr_left fun r hr => ?_)
    simp only [id, Function.comp, List.map_map]
    refine (List.map_id r).symm.trans (List.map_congr_left fun q hq => ?_)
    have := (h5 r hr).2 q hq
    simp only [id, Function.comp]; omega
  have hn : nst (X.map (·.map Int.toNat)) = (X.headD []).length := by
    have := intM_head (X.map (·.map Int.toNat))
    rw [← hX] at this; exact this.symm
  refine ⟨_, hX, by simpa using h1, by simpa using h2, by rw [hn]; exact h3, by rw [hn]; exact h4, ?_, ?_⟩
  · intro r hr
    obtain ⟨s, hs, rfl⟩ := List.mem_map.1 hr
    rw [hn, List.length_map]; exact (h5 s hs).1
  · intro r hr q hq
    obtain ⟨s, hs, rfl⟩ := List.mem_map.1 hr
    obtain ⟨p, hp, rfl⟩ := List.mem_map.1 hq
    have := (h5 s hs).2 p hp
    rw [hn]; omega
theorem ok_machine (M : List (List Nat)) (h : OkM M) : machineB (intM M) = true := by
  simp only [machineB, Bool.and_eq_true, decide_eq_true_eq, List.all_eq_true, beq_iff_eq, intM_length, intM_head]
  refine ⟨⟨⟨⟨h.b1, h.b4⟩, h.n1⟩, h.n9⟩, fun r hr => ?_⟩
  obtain ⟨s, hs, rfl⟩ := List.mem_map.1 hr
  refine ⟨by rw [List.length_map]; exact h.row s hs, fun q hq => ?_⟩
  obtain ⟨p, hp, rfl⟩ := List.mem_map.1 hq
  have := h.lt s hs p hp
  omega

/-- The image of a set under a row of states, from state q on. -/
def prF (s : Nat) : List Nat → Nat → Nat → Nat
  | [], _, out => out
  | p :: r, q, out => prF s r (q + 1) (if s.testBit q then out ||| 2 ^ p else out)
def press (M : List (List Nat)) (s b : Nat) : Nat := prF s (M.getD b []) 0 0
theorem prF_lt (s n : Nat) : ∀ (r : List Nat) (q out : Nat), out < 2 ^ n → (∀ p ∈ r, p < n) → prF s r q out < 2 ^ n := by
  intro r
  induction r with
  | nil => intro q out h _; exact h
  | cons p r ih =>
    intro q out h hr
    rw [prF]
    refine ih _ _ ?_ fun x hx => hr x (List.mem_cons_of_mem _ hx)
    split
    · exact Nat.or_lt_two_pow h (Nat.pow_lt_pow_right (by omega) (hr p (List.mem_cons_self ..)))
    · exact h
theorem getD_mem {M : List (List Nat)} {b : Nat} (hb : b < M.length) : M.getD b [] ∈ M := by
  rw [List.getD, List.getElem?_eq_getElem hb]; exact List.getElem_mem hb
theorem press_lt {M : List (List Nat)} (h : OkM M) (s b : Nat) : press M s b < 2 ^ nst M := by
  rcases Nat.lt_or_ge b M.length with hb | hb
  · exact prF_lt s _ _ _ _ (Nat.two_pow_pos _) (h.lt _ (getD_mem hb))
  · unfold press; rw [List.getD, List.getElem?_eq_none hb]; exact Nat.two_pow_pos _
/-- The states of a set. -/
def listN (s : Nat) : List Nat := (List.range 9).filter s.testBit
def sizeN (s : Nat) : Nat := (listN s).length

/-- A set that was reached, the word that leads to it, and the step before. -/
structure Ent where
  set : Nat
  word : List UInt8
  frm : Nat
  btn : Nat
/-- A button tried from an entry. -/
def grow1 (M : List (List Nat)) (x : Ent) (L : List Ent) (b : Nat) : List Ent :=
  if L.any (fun e => e.set == press M x.set b) then L else L ++ [⟨press M x.set b, x.word ++ [UInt8.ofNat (97 + b)], x.set, 97 + b⟩]
/-- The buttons from b on, tried. -/
def growF (M : List (List Nat)) (x : Ent) : Nat → Nat → List Ent → List Ent
  | 0, _, L => L
  | k + 1, b, L => growF M x k (b + 1) (grow1 M x L b)
def bfsF (M : List (List Nat)) : Nat → Nat → List Ent → List Ent
  | 0, _, L => L
  | f + 1, i, L => match L[i]? with
    | none => L
    | some x => bfsF M f (i + 1) (growF M x M.length 0 L)
/-- All images of a set in the order of the words. -/
def reach (M : List (List Nat)) (s : Nat) : List Ent := bfsF M 513 0 [⟨s, [], 0, 0⟩]
end Go.Proofs.YthlgdakdjikjhaaDoor
