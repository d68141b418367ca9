/-
  A chain in which all seals of each letter stand together: the one list of the fewest cuts. No program.
-/
import Derived.Test.YthelnggbcgjbcaaSigns
namespace Go.Proofs.Ythelnggbcgjbcaa

def lastS (s : Int) (v : List Int) : Int := v.getLast?.getD s
theorem chg_append (v : List Int) : ∀ (s : Int) (w : List Int), chg s (v ++ w) = chg s v + chg (lastS s v) w := by
  induction v with
  | nil => intro s w; simp [chg, lastS]
  | cons a r ih =>
    intro s w
    have e : lastS s (a :: r) = lastS a r := by
      unfold lastS
      cases r with
      | nil => rfl
      | cons b t => rw [List.getLast?_cons_cons]; simp [List.getLast?_eq_some_getLast]
    rw [List.cons_append, chg, chg, ih, e]; omega
theorem chg_zero (v : List Int) (s : Int) (h : chg s v = 0) : v = List.replicate v.length s := by
  induction v with
  | nil => rfl
  | cons a r ih =>
    simp only [chg] at h
    by_cases e : a = s
    · subst e
      rw [List.length_cons, List.replicate_succ, ← ih (by omega)]
    · rw [if_neg e] at h; omega
theorem chg_once (v : List Int) (s : Int) (hv : Sgn v) (hs : s = 1 ∨ s = -1) (h : chg s v = 1) : ∃ a b, 0 < b ∧ v = List.replicate a s ++ List.replicate b (-s) := by
  induction v with
  | nil => simp [chg] at h
  | cons c r ih =>
    have hr : Sgn r := fun y hy => hv y (by simp [hy])
    have hc := hv c (by simp)
    simp only [chg] at h
    by_cases e : c = s
    · subst e
      obtain ⟨a, b, hb, e⟩ := ih hr (by simpa using h)
      exact ⟨a + 1, b, hb, by rw [e, List.replicate_succ]; rfl⟩
    · rw [if_neg e] at h
      have hc2 : c = -s := by omega
      subst hc2
      have := chg_zero r (-s) (by omega)
      exact ⟨0, r.length + 1, by omega, by rw [List.replicate_succ, ← this]; rfl⟩

/-- How often a sign occurs. -/
def cs (s : Int) (v : List Int) : Nat := v.countP (fun y => decide (y = s))
theorem cs_append (s : Int) (v w : List Int) : cs s (v ++ w) = cs s v + cs s w := List.countP_append
theorem cs_rep (s t : Int) (n : Nat) : cs s (List.replicate n t) = if t = s then n else 0 := by
  unfold cs; rw [List.countP_replicate]; by_cases h : t = s <;> simp [h]
theorem grp_one (v : List Int) (n : Nat) (s : Int) (hn : 0 < n) (hs : s = 1 ∨ s = -1) (hv : Sgn v) (h1 : cs 1 v = n) (h2 : cs (-1) v = n) :
    1 ≤ chg s v ∧ (chg s v = 1 → v = List.replicate n s ++ List.replicate n (-s)) := by
  constructor
  · rcases Nat.eq_zero_or_pos (chg s v) with h | h
    · have := chg_zero v s h
      rw [this, cs_rep] at h1 h2
      rcases hs with rfl | rfl <;> simp at h1 h2 <;> omega
    · exact h
  · intro h
    obtain ⟨a, b, hb, e⟩ := chg_once v s hv hs h
    rw [e, cs_append, cs_rep, cs_rep] at h1 h2
    rcases hs with rfl | rfl
    · simp at h1 h2; rw [e, h1, h2]
    · simp at h1 h2; rw [e, h1, h2]
/-- Groups of signs, each balanced. -/
def GB : List Nat → List Int → Prop
  | [], v => v = []
  | n :: r, v => ∃ a b, v = a ++ b ∧ a.length = 2 * n ∧ cs 1 a = n ∧ cs (-1) a = n ∧ GB r b
def gV (s : Int) : List Nat → List Int
  | [] => []
  | n :: r => List.replicate n s ++ List.replicate n (-s) ++ gV (if n = 0 then s else -s) r
def nz (g : List Nat) : Nat := g.countP (fun n => decide (0 < n))
def gW : Nat → List Nat → List Int
  | _, [] => []
  | p, n :: r => if n = 0 then gW p r else ((p + n : Nat) : Int) :: gW (p + 2 * n) r
theorem gb_chg (g : List Nat) : ∀ (v : List Int) (s : Int), (s = 1 ∨ s = -1) → Sgn v → GB g v → nz g ≤ chg s v ∧ (chg s v = nz g → v = gV s g) := by
  induction g with
  | nil => intro v s _ _ h; obtain rfl : v = [] := h; simp [nz, chg, gV]
  | cons n r ih =>
    intro v s hs hv h
    obtain ⟨a, b, rfl, hal, h1, h2, hb⟩ := h
    have hva : Sgn a := fun y hy => hv y (by simp [hy])
    have hvb : Sgn b := fun y hy => hv y (by simp [hy])
    rw [chg_append]
    by_cases hn : n = 0
    · subst hn
      have : a = [] := List.eq_nil_of_length_eq_zero (by omega)
      subst this
      have := ih b s hs hvb hb
      simpa [nz, gV, lastS, chg] using this
    · have hn' : 0 < n := by omega
      obtain ⟨g1, g2⟩ := grp_one a n s hn' hs hva h1 h2
      have hl : lastS s a = 1 ∨ lastS s a = -1 := by
        unfold lastS
        cases e : a.getLast? with
        | none => exact hs
        | some y => exact hva y (List.mem_of_getLast? e)
      obtain ⟨i1, i2⟩ := ih b (lastS s a) hl hvb hb
      have e : nz (n :: r) = nz r + 1 := by simp [nz, hn']
      rw [e]
      refine ⟨by omega, fun h => ?_⟩
      have ha := g2 (by omega)
      have hls : lastS s a = -s := by
        rw [ha]; unfold lastS
        rw [List.getLast?_append, List.getLast?_replicate, if_neg hn]; rfl
      rw [hls] at i1 i2 h
      rw [gV, if_neg hn, ← i2 (by omega), ← ha]
theorem cutsAt_rep (n : Nat) : ∀ (s : Int) (p : Nat) (w : List Int), cutsAt s p (List.replicate n s ++ w) = cutsAt s (p + n) w := by
  induction n with
  | zero => intro s p w; rfl
  | succ n ih => intro s p w; rw [List.replicate_succ, List.cons_append, cutsAt, if_pos rfl, ih]; congr 1; omega
theorem cutsAt_gV (g : List Nat) : ∀ (s : Int) (p : Nat), (s = 1 ∨ s = -1) → cutsAt s p (gV s g) = gW p g := by
  induction g with
  | nil => intro s p _; simp [gV, gW, cutsAt]
  | cons n r ih =>
    intro s p hs
    rw [gV, gW]
    by_cases hn : n = 0
    · subst hn; simpa using ih s p hs
    · rw [if_neg hn, if_neg hn, List.append_assoc, cutsAt_rep]
      obtain ⟨m, rfl⟩ : ∃ m, n = m + 1 := ⟨n - 1, by omega⟩
      rw [List.replicate_succ, List.cons_append, cutsAt, if_neg (by omega), cutsAt_rep, ih _ _ (by omega)]
      congr 2; omega

/-- The chain of groups. -/
def gL (a b c d : Nat) : List UInt8 := List.replicate (2 * a) 97 ++ (List.replicate (2 * b) 98 ++ (List.replicate (2 * c) 99 ++ List.replicate (2 * d) 100))
theorem cnt_rep (j : Nat) (s : Int) (x : UInt8) (n : Nat) : ∀ (v : List Int), v.length = n → cnt (pj j) s (List.replicate n x) v = if x.toNat = 97 + j then cs s v else 0 := by
  induction n with
  | zero => intro v h; have : v = [] := List.eq_nil_of_length_eq_zero h; subst this; simp [cnt, cs]
  | succ n ih =>
    intro v h
    cases v with
    | nil => simp at h
    | cons a r =>
      have hr : r.length = n := by simpa using h
      rw [List.replicate_succ]
      simp only [cnt, ih r hr, cs, List.countP_cons]
      by_cases hx : x.toNat = 97 + j
      · simp [pj, hx]; omega
      · simp [pj, hx]
theorem gL_ok (a b c d : Nat) : (gL a b c d).all okb = true := by
  simp only [gL, List.all_append, List.all_replicate, Bool.and_eq_true]
  refine ⟨?_, ?_, ?_, ?_⟩ <;> (split <;> first | rfl | decide)
theorem gL_cn (a b c d : Nat) : cn (gL a b c d) 0 = 2 * a ∧ cn (gL a b c d) 1 = 2 * b ∧ cn (gL a b c d) 2 = 2 * c ∧ cn (gL a b c d) 3 = 2 * d := by
  have h : ∀ (n : Nat) (x : UInt8) (j : Nat), cn (List.replicate n x) j = if x.toNat = 97 + j then n else 0 := by
    intro n x j; unfold cn; rw [List.countP_replicate]; by_cases h : x.toNat = 97 + j <;> simp [h]
  simp only [gL, cn_append, h]
  simp
theorem gL_len (a b c d : Nat) : (gL a b c d).length = 2 * (a + b + c + d) := by simp [gL]; omega
theorem gL_kinds (a b c d : Nat) : kindsN (gL a b c d) = nz [a, b, c, d] := by
  obtain ⟨h0, h1, h2, h3⟩ := gL_cn a b c d
  unfold kindsN nz
  rw [h0, h1, h2, h3]
  simp only [List.countP_cons, List.countP_nil, decide_eq_true_eq]
  split <;> split <;> split <;> split <;> omega
theorem gL_even (a b c d : Nat) : evenB (gL a b c d) = true := by
  obtain ⟨h0, h1, h2, h3⟩ := gL_cn a b c d
  simp [evenB, h0, h1, h2, h3]
theorem gL_bal (a b c d : Nat) (v : List Int) (hv : Sgn v) (hl : v.length = (gL a b c d).length) (h : Bal (gL a b c d) v) : GB [a, b, c, d] v := by
  rw [gL_len] at hl
  obtain ⟨v0, r0, e0, l0, m0⟩ : ∃ x y, v = x ++ y ∧ x.length = 2 * a ∧ y.length = 2 * (b + c + d) := ⟨v.take (2 * a), v.drop (2 * a), (List.take_append_drop _ _).symm, by simp; omega, by simp; omega⟩
  obtain ⟨v1, r1, e1, l1, m1⟩ : ∃ x y, r0 = x ++ y ∧ x.length = 2 * b ∧ y.length = 2 * (c + d) := ⟨r0.take (2 * b), r0.drop (2 * b), (List.take_append_drop _ _).symm, by simp; omega, by simp; omega⟩
  obtain ⟨v2, v3, e2, l2, l3⟩ : ∃ x y, r1 = x ++ y ∧ x.length = 2 * c ∧ y.length = 2 * d := ⟨r1.take (2 * c), r1.drop (2 * c), (List.take_append_drop _ _).symm, by simp; omega, by simp; omega⟩
  subst e2 e1 e0
  have hc : ∀ (x : List Int) (n : Nat), (∀ y ∈ x, y = 1 ∨ y = -1) → x.length = 2 * n → cs 1 x = cs (-1) x → cs 1 x = n ∧ cs (-1) x = n := by
    intro x n hx hxl he
    have : cs 1 x + cs (-1) x = x.length := by
      clear hxl he
      induction x with
      | nil => rfl
      | cons y t ih =>
        have := ih fun z hz => hx z (by simp [hz])
        unfold cs at this ⊢
        simp only [List.countP_cons, List.length_cons]
        rcases hx y (by simp) with rfl | rfl <;> simp <;> omega
    omega
  have key : ∀ j s, cnt (pj j) s (gL a b c d) (v0 ++ (v1 ++ (v2 ++ v3))) = (if 97 = 97 + j then cs s v0 else 0) + ((if 98 = 97 + j then cs s v1 else 0) + ((if 99 = 97 + j then cs s v2 else 0) + (if 100 = 97 + j then cs s v3 else 0))) := by
    intro j s
    rw [gL, cnt_append _ _ _ _ _ _ (by simpa using l0), cnt_append _ _ _ _ _ _ (by simpa using l1), cnt_append _ _ _ _ _ _ (by simpa using l2), cnt_rep _ _ _ _ _ l0, cnt_rep _ _ _ _ _ l1, cnt_rep _ _ _ _ _ l2, cnt_rep _ _ _ _ _ l3]
    rfl
  have b0 := h 0 (by omega)
  have b1 := h 1 (by omega)
  have b2 := h 2 (by omega)
  have b3 := h 3 (by omega)
  rw [key, key] at b0 b1 b2 b3
  simp at b0 b1 b2 b3
  have c0 := hc v0 a (fun y hy => hv y (by simp [hy])) l0 b0
  have c1 := hc v1 b (fun y hy => hv y (by simp [hy])) l1 b1
  have c2 := hc v2 c (fun y hy => hv y (by simp [hy])) l2 b2
  have c3 := hc v3 d (fun y hy => hv y (by simp [hy])) l3 b3
  exact ⟨v0, _, rfl, l0, c0.1, c0.2, v1, _, rfl, l1, c1.1, c1.2, v2, _, rfl, l2, c2.1, c2.2, v3, [], by simp, l3, c3.1, c3.2, rfl⟩
/-- The only fair cuts, as many as kinds. -/
theorem grouped (a b c d : Nat) (L : List Int) (h1 : cutsB (gL a b c d).length 1 L = true) (h2 : fairB (gL a b c d) L = true) (h3 : L.length ≤ kindsN (gL a b c d)) : L = gW 0 [a, b, c, d] := by
  have hc0 := cutsB_dn _ _ _ 0 h1 (by omega)
  have hb := (fair_sgn _ L hc0).1 h2
  have hs := sgnOf_sgn (gL a b c d).length 1 0 L (.inl rfl)
  have hg := gL_bal a b c d _ hs (sgnOf_len _ _ _ _) hb
  have e := cutsAt_sgnOf (gL a b c d).length 1 0 L (.inl rfl) (by rw [Nat.zero_add]; exact hc0)
  have hl := cutsAt_len (sgnOf (gL a b c d).length 1 0 L) 1 0
  rw [e] at hl
  obtain ⟨i1, i2⟩ := gb_chg _ _ 1 (.inl rfl) hs hg
  rw [gL_kinds] at h3
  have := i2 (by omega)
  rw [this, cutsAt_gV _ _ _ (.inl rfl)] at e
  exact e.symm
end Go.Proofs.Ythelnggbcgjbcaa
