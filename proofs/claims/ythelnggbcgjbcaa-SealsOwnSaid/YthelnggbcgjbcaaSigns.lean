/-
  Cuts of a chain and vectors of signs say the same; fair cuts are balanced signs; rings and turned rings. No program.
-/
import Derived.Test.YthelnggbcgjbcaaNecklace
namespace Go.Proofs.Ythelnggbcgjbcaa

def sgnOf : Nat → Int → Nat → List Int → List Int
  | 0, _, _, _ => []
  | f + 1, s, i, [] => s :: sgnOf f s (i + 1) []
  | f + 1, s, i, c :: r => if c = (i : Int) then (-s) :: sgnOf f (-s) (i + 1) r else s :: sgnOf f s (i + 1) (c :: r)
def cutsAt : Int → Nat → List Int → List Int
  | _, _, [] => []
  | p, i, v :: r => if v = p then cutsAt p (i + 1) r else (i : Int) :: cutsAt v (i + 1) r

theorem sgnOf_len (f : Nat) : ∀ (s : Int) (i : Nat) (L : List Int), (sgnOf f s i L).length = f := by
  induction f with
  | zero => intro s i L; simp [sgnOf]
  | succ f ih =>
    intro s i L
    cases L with
    | nil => simp [sgnOf, ih]
    | cons c r => simp only [sgnOf]; split <;> simp [ih]
theorem sgnOf_sgn (f : Nat) : ∀ (s : Int) (i : Nat) (L : List Int), (s = 1 ∨ s = -1) → Sgn (sgnOf f s i L) := by
  induction f with
  | zero => intro s i L _ y hy; simp [sgnOf] at hy
  | succ f ih =>
    intro s i L hs y hy
    cases L with
    | nil =>
      simp only [sgnOf] at hy
      rcases List.mem_cons.1 hy with rfl | hy
      · exact hs
      · exact ih _ _ _ hs y hy
    | cons c r =>
      simp only [sgnOf] at hy
      split at hy
      · rcases List.mem_cons.1 hy with rfl | hy
        · omega
        · exact ih _ _ _ (by omega) y hy
      · rcases List.mem_cons.1 hy with rfl | hy
        · exact hs
        · exact ih _ _ _ hs y hy
theorem cutsB_up (n : Int) (l : List Int) (f : Int) (h : cutsB n f l = true) (hne : ∀ c r, l = c :: r → c ≠ f) : cutsB n (f + 1) l = true := by
  cases l with
  | nil => rfl
  | cons c r =>
    have := hne c r rfl
    simp only [cutsB, Bool.and_eq_true, decide_eq_true_eq] at h ⊢
    exact ⟨⟨by omega, h.1.2⟩, h.2⟩
theorem cutsB_dn (n : Int) (l : List Int) (f g : Int) (h : cutsB n f l = true) (hg : g ≤ f) : cutsB n g l = true := by
  cases l with
  | nil => rfl
  | cons x r =>
    simp only [cutsB, Bool.and_eq_true, decide_eq_true_eq] at h ⊢
    exact ⟨⟨by omega, h.1.2⟩, h.2⟩
theorem cutsAt_sgnOf (f : Nat) : ∀ (s : Int) (i : Nat) (L : List Int), (s = 1 ∨ s = -1) → cutsB (i + f : Nat) i L = true → cutsAt s i (sgnOf f s i L) = L := by
  induction f with
  | zero =>
    intro s i L _ h
    cases L with
    | nil => simp [sgnOf, cutsAt]
    | cons c r => simp only [cutsB, Bool.and_eq_true, decide_eq_true_eq] at h; omega
  | succ f ih =>
    intro s i L hs h
    cases L with
    | nil => simp only [sgnOf, cutsAt, if_true]; exact ih s (i + 1) [] hs rfl
    | cons c r =>
      simp only [sgnOf]
      by_cases hc : c = (i : Int)
      · rw [if_pos hc, cutsAt, if_neg (by omega), hc]
        congr 1
        simp only [cutsB, Bool.and_eq_true, decide_eq_true_eq] at h
        refine ih (-s) (i + 1) r (by omega) ?_
        rw [show ((i + 1 + f : Nat) : Int) = (i + (f + 1) : Nat) by omega, show ((i + 1 : Nat) : Int) = c + 1 by omega]
        exact h.2
      · rw [if_neg hc, cutsAt, if_pos rfl]
        refine ih s (i + 1) (c :: r) hs ?_
        rw [show ((i + 1 + f : Nat) : Int) = (i + (f + 1) : Nat) by omega]
        exact cutsB_up _ _ _ h (fun _ _ e => by cases e; exact hc)
theorem cutsAt_len (v : List Int) : ∀ (s : Int) (i : Nat), (cutsAt s i v).length = chg s v := by
  induction v with
  | nil => intro s i; simp [cutsAt, chg]
  | cons a r ih =>
    intro s i
    simp only [cutsAt, chg]
    by_cases h : a = s
    · rw [if_pos h, if_pos h, ih, h]; omega
    · rw [if_neg h, if_neg h, List.length_cons, ih]; omega
theorem cutsAt_cutsB (v : List Int) : ∀ (s : Int) (i : Nat), cutsB (i + v.length : Nat) i (cutsAt s i v) = true := by
  induction v with
  | nil => intro s i; rfl
  | cons a r ih =>
    intro s i
    simp only [cutsAt]
    have e : ((i + (a :: r).length : Nat) : Int) = (i + 1 + r.length : Nat) := by simp; omega
    split
    · rw [e]; exact cutsB_dn _ _ _ _ (ih s (i + 1)) (by omega)
    · simp only [cutsB, Bool.and_eq_true, decide_eq_true_eq]
      refine ⟨⟨by omega, by rw [e]; omega⟩, ?_⟩
      rw [e]; exact cutsB_dn _ _ _ _ (ih a (i + 1)) (by omega)
theorem sgnOf_cutsAt (v : List Int) : ∀ (s : Int) (i : Nat), (s = 1 ∨ s = -1) → Sgn v → sgnOf v.length s i (cutsAt s i v) = v := by
  induction v with
  | nil => intro s i _ _; rfl
  | cons a r ih =>
    intro s i hs hv
    have ha := hv a (by simp)
    have hr : Sgn r := fun y hy => hv y (by simp [hy])
    simp only [cutsAt, List.length_cons]
    by_cases h : a = s
    · subst h
      rw [if_pos rfl]
      have hB := cutsAt_cutsB r a (i + 1)
      cases hL : cutsAt a (i + 1) r with
      | nil => rw [sgnOf, ← hL, ih a (i + 1) hs hr]
      | cons c t =>
        rw [hL] at hB
        simp only [cutsB, Bool.and_eq_true, decide_eq_true_eq] at hB
        rw [sgnOf, if_neg (by omega), ← hL, ih a (i + 1) hs hr]
    · rw [if_neg h, sgnOf, if_pos rfl, show -s = a by omega, ih a (i + 1) ha hr]

/-- What bears a sign. -/
def pick (s : Int) : List UInt8 → List Int → List UInt8
  | c :: l, y :: v => if y = s then c :: pick s l v else pick s l v
  | _, _ => []
theorem pick_cn (s : Int) (j : Nat) (l : List UInt8) : ∀ v, cn (pick s l v) j = cnt (pj j) s l v := by
  induction l with
  | nil => intro v; cases v <;> simp [pick, cnt, cn]
  | cons c l ih =>
    intro v
    cases v with
    | nil => simp [pick, cnt, cn]
    | cons a r =>
      simp only [pick, cnt]
      by_cases h : a = s
      · by_cases hc : c.toNat = 97 + j
        · simp [h, cn_cons, ih, pj, hc]; omega
        · simp [h, cn_cons, ih, pj, hc]
      · simp [h, ih]

theorem share_sgn (l : List UInt8) (v : List Int) : ∀ (s : Int) (at_ i : Nat), (s = 1 ∨ s = -1) → Sgn v → at_ ≤ i → i + v.length = l.length →
    shareGo l at_ (cutsAt s i v) = ((l.drop at_).take (i - at_) ++ pick s (l.drop i) v, pick (-s) (l.drop i) v) := by
  induction v with
  | nil =>
    intro s at_ i hs _ hi hl
    simp at hl
    rw [cutsAt, shareGo, List.take_of_length_le (by rw [List.length_drop]; omega), List.drop_eq_nil_of_le (i := i) (by omega)]
    simp [pick]
  | cons a r ih =>
    intro s at_ i hs hv hi hl
    simp only [List.length_cons] at hl
    have ha := hv a (by simp)
    have hr : Sgn r := fun y hy => hv y (by simp [hy])
    have hd : l.drop i = l[i]'(by omega) :: l.drop (i + 1) := List.drop_eq_getElem_cons (by omega)
    have ht : (l.drop at_).take (i + 1 - at_) = (l.drop at_).take (i - at_) ++ [l[i]'(by omega)] := by
      rw [show i + 1 - at_ = (i - at_) + 1 by omega, List.take_succ_eq_append_getElem (by rw [List.length_drop]; omega)]
      congr 2
      rw [List.getElem_drop]
      congr 1; omega
    by_cases h : a = s
    · subst h
      rw [cutsAt, if_pos rfl, ih a at_ (i + 1) hs hr (by omega) (by omega), hd, ht]
      simp only [pick, if_true]
      rw [if_neg (show ¬ a = -a by omega)]
      simp
    · have : a = -s := by omega
      subst this
      rw [cutsAt, if_neg h, shareGo, Int.toNat_natCast, ih (-s) i (i + 1) ha hr (by omega) (by omega), Int.neg_neg, hd]
      simp only [pick]
      rw [if_neg h, show i + 1 - i = 1 by omega]
      simp only [if_true, List.take_succ_cons, List.take_zero, List.singleton_append]

theorem fair_bal (l : List UInt8) (v : List Int) (hv : Sgn v) (hl : v.length = l.length) : fairB l (cutsAt 1 0 v) = true ↔ Bal l v := by
  have := share_sgn l v 1 0 0 (.inl rfl) hv (Nat.le_refl _) (by omega)
  simp at this
  rw [fairB, this, sameB]
  simp only [Bool.and_eq_true, beq_iff_eq, pick_cn]
  constructor
  · intro h j hj
    rcases (show j = 0 ∨ j = 1 ∨ j = 2 ∨ j = 3 by omega) with rfl | rfl | rfl | rfl
    · exact h.1.1.1
    · exact h.1.1.2
    · exact h.1.2
    · exact h.2
  · intro h
    exact ⟨⟨⟨h 0 (by omega), h 1 (by omega)⟩, h 2 (by omega)⟩, h 3 (by omega)⟩
theorem fair_sgn (l : List UInt8) (L : List Int) (h : cutsB l.length 0 L = true) : fairB l L = true ↔ Bal l (sgnOf l.length 1 0 L) := by
  have e := cutsAt_sgnOf l.length 1 0 L (.inl rfl) (by rw [Nat.zero_add]; exact h)
  rw [← fair_bal l _ (sgnOf_sgn _ _ _ _ (.inl rfl)) (sgnOf_len _ _ _ _), e]

theorem chg_neg (v : List Int) : ∀ s, chg (-s) (v.map (- ·)) = chg s v := by
  induction v with
  | nil => intro s; rfl
  | cons a r ih =>
    intro s
    simp only [List.map_cons, chg, ih]
    by_cases h : a = s
    · simp [h]
    · rw [if_neg (by omega), if_neg h]
theorem Bal.neg {l : List UInt8} {v : List Int} (h : Bal l v) : Bal l (v.map (- ·)) := by
  intro j hj
  rw [cnt_neg, cnt_neg, Int.neg_neg]
  exact (h j hj).symm
theorem Sgn.neg {v : List Int} (h : Sgn v) : Sgn (v.map (- ·)) := by
  intro y hy
  obtain ⟨a, ha, rfl⟩ := List.mem_map.1 hy
  have := h a ha
  omega

/-- An even chain is divided fairly by at most as many cuts as it has kinds. -/
theorem chain_fair (l : List UInt8) (hok : l.all okb = true) (hev : evenB l = true) : ∃ L, cutsB l.length 1 L = true ∧ fairB l L = true ∧ L.length ≤ kindsN l := by
  by_cases hne : l = []
  · subst hne; exact ⟨[], rfl, rfl, by simp⟩
  · obtain ⟨v, s, hv, hl, hs, hb, hc⟩ := necklace l hok hev hne
    have key : ∀ w, Sgn (1 :: w) → (1 :: w).length = l.length → Bal l (1 :: w) → chg 1 w ≤ kindsN l → ∃ L, cutsB l.length 1 L = true ∧ fairB l L = true ∧ L.length ≤ kindsN l := by
      intro w hw hwl hwb hwc
      refine ⟨cutsAt 1 0 (1 :: w), ?_, (fair_bal l _ hw hwl).2 hwb, ?_⟩
      · rw [cutsAt, if_pos rfl]
        have := cutsAt_cutsB w 1 1
        rw [show ((1 + w.length : Nat) : Int) = l.length by simp at hwl; omega] at this
        exact this
      · rw [cutsAt_len, chg, if_pos rfl]; omega
    cases v with
    | nil => exact absurd (List.eq_nil_of_length_eq_zero hl.symm) hne
    | cons a w =>
      have hcw : chg a w ≤ kindsN l := by simp only [chg] at hc; omega
      rcases hv a (by simp) with rfl | rfl
      · exact key w hv hl hb hcw
      · have h1 := hb.neg
        have h2 := hv.neg
        rw [List.map_cons] at h1 h2
        refine key (w.map (- ·)) h2 (by simpa using hl) h1 ?_
        rw [show (1 : Int) = - -1 by rfl, chg_neg]; exact hcw

/-- The lists of cuts, all of them. -/
theorem lsts_mem : ∀ (d m f : Nat) (x : List Int), x ∈ lsts m f d ↔ x.length = m ∧ cutsB (f + d : Nat) f x = true := by
  intro d
  induction d with
  | zero =>
    intro m f x
    cases m with
    | zero => simp only [lsts, List.mem_singleton]; constructor
              · rintro rfl; exact ⟨rfl, rfl⟩
              · rintro ⟨h, _⟩; exact List.eq_nil_of_length_eq_zero h
    | succ m =>
      simp only [lsts]
      constructor
      · intro h; simp at h
      · rintro ⟨h1, h2⟩
        cases x with
        | nil => simp at h1
        | cons c r => simp only [cutsB, Bool.and_eq_true, decide_eq_true_eq] at h2; omega
  | succ d ih =>
    intro m f x
    cases m with
    | zero => simp only [lsts, List.mem_singleton]; constructor
              · rintro rfl; exact ⟨rfl, rfl⟩
              · rintro ⟨h, _⟩; exact List.eq_nil_of_length_eq_zero h
    | succ m =>
      simp only [lsts, List.mem_append, List.mem_map, ih]
      have e : ((f + 1 + d : Nat) : Int) = (f + (d + 1) : Nat) := by omega
      rw [e]
      constructor
      · rintro (⟨y, ⟨h1, h2⟩, rfl⟩ | ⟨h1, h2⟩)
        · refine ⟨by simp [h1], ?_⟩
          simp only [cutsB, Bool.and_eq_true, decide_eq_true_eq]
          exact ⟨⟨by omega, by omega⟩, h2⟩
        · exact ⟨h1, cutsB_dn _ _ _ _ h2 (by omega)⟩
      · rintro ⟨h1, h2⟩
        cases x with
        | nil => simp at h1
        | cons c r =>
          by_cases hc : c = (f : Int)
          · left
            simp only [cutsB, Bool.and_eq_true, decide_eq_true_eq] at h2
            exact ⟨r, ⟨by simpa using h1, by rw [show ((f + 1 : Nat) : Int) = c + 1 by omega]; exact h2.2⟩, by rw [hc]⟩
          · right
            exact ⟨h1, cutsB_up _ _ _ h2 (fun _ _ e => by cases e; exact hc)⟩
/-- The last sign, by the number of cuts. -/
theorem sgn_last (v : List Int) : ∀ (s a : Int), (s = 1 ∨ s = -1) → Sgn v → v.getLast? = some a → a = if chg s v % 2 = 0 then s else -s := by
  induction v with
  | nil => intro s a _ _ h; simp at h
  | cons b r ih =>
    intro s a hs hv h
    have hb := hv b (by simp)
    have hr : Sgn r := fun y hy => hv y (by simp [hy])
    cases r with
    | nil =>
      simp at h; subst h
      by_cases e : b = s
      · simp [chg, e]
      · have e1 : chg s [b] = 1 := by simp [chg, e]
        rw [e1]; simp; omega
    | cons c t =>
      rw [List.getLast?_cons_cons] at h
      have := ih b a hb hr h
      by_cases e : b = s
      · have e1 : chg s (b :: c :: t) = chg b (c :: t) := by rw [chg, if_pos e, Nat.zero_add]
        rw [e1, e]; rw [e] at this; exact this
      · have e1 : chg s (b :: c :: t) = 1 + chg b (c :: t) := by rw [chg, if_neg e]
        rw [e1]
        have hbs : b = -s := by omega
        rw [hbs, Int.neg_neg] at this
        rw [hbs, this]
        by_cases h2 : chg (-s) (c :: t) % 2 = 0
        · rw [if_pos h2, if_neg (by omega)]
        · rw [if_neg h2, if_pos (by omega)]
theorem sgnOf_app (f : Nat) : ∀ (g : Nat) (s : Int) (i : Nat) (L : List Int), cutsB (i + f : Nat) i L = true →
    sgnOf (f + g) s i L = sgnOf f s i L ++ List.replicate g (if L.length % 2 = 0 then s else -s) := by
  induction f with
  | zero =>
    intro g s i L h
    have hL : L = [] := by
      cases L with
      | nil => rfl
      | cons c r => simp only [cutsB, Bool.and_eq_true, decide_eq_true_eq] at h; omega
    subst hL
    simp only [Nat.zero_add, sgnOf, List.nil_append]
    clear h
    induction g generalizing i with
    | zero => rfl
    | succ g ih => rw [sgnOf, List.replicate_succ, ih]; rfl
  | succ f ih =>
    intro g s i L h
    rw [show f + 1 + g = (f + g) + 1 by omega]
    have e : ((i + (f + 1) : Nat) : Int) = (i + 1 + f : Nat) := by omega
    rw [e] at h
    cases L with
    | nil => rw [sgnOf, sgnOf, ih g s (i + 1) [] rfl]; rfl
    | cons c r =>
      rw [sgnOf, sgnOf]
      by_cases hc : c = (i : Int)
      · rw [if_pos hc, if_pos hc]
        simp only [cutsB, Bool.and_eq_true, decide_eq_true_eq] at h
        rw [ih g (-s) (i + 1) r (by rw [show ((i + 1 : Nat) : Int) = c + 1 by omega]; exact h.2)]
        simp only [List.length_cons, List.cons_append, Int.neg_neg]
        by_cases h2 : r.length % 2 = 0
        · rw [if_pos h2, if_neg (by omega)]
        · rw [if_neg h2, if_pos (by omega)]
      · rw [if_neg hc, if_neg hc, ih g s (i + 1) (c :: r) (cutsB_up _ _ _ h (fun _ _ e => by cases e; exact hc))]
        rfl
theorem sgnOf_shift (f : Nat) : ∀ (s : Int) (i c : Nat) (L : List Int), sgnOf f s i (L.map (· - (c : Int))) = sgnOf f s (i + c) L := by
  induction f with
  | zero => intro s i c L; rfl
  | succ f ih =>
    intro s i c L
    cases L with
    | nil => rw [List.map_nil, sgnOf, sgnOf, show i + c + 1 = i + 1 + c by omega, ← ih s (i + 1) c []]; rfl
    | cons x r =>
      rw [List.map_cons, sgnOf, sgnOf, show i + c + 1 = i + 1 + c by omega, ← ih (-s) (i + 1) c r, ← ih s (i + 1) c (x :: r), List.map_cons]
      by_cases h : x = ((i + c : Nat) : Int)
      · rw [if_pos (by omega), if_pos h]
      · rw [if_neg (by omega), if_neg h]
theorem sgnOf_neg (f : Nat) : ∀ (s : Int) (i : Nat) (L : List Int), sgnOf f (-s) i L = (sgnOf f s i L).map (- ·) := by
  induction f with
  | zero => intro s i L; rfl
  | succ f ih =>
    intro s i L
    cases L with
    | nil => rw [sgnOf, sgnOf, ih]; rfl
    | cons x r =>
      rw [sgnOf, sgnOf]
      split <;> simp [ih, Function.comp_def]
/-- Before the first cut. -/
theorem sgnOf_pre (c : Nat) : ∀ (f : Nat) (s : Int) (i : Nat) (r : List Int), sgnOf (c + (f + 1)) s i (((i + c : Nat) : Int) :: r) = List.replicate c s ++ sgnOf (f + 1) (-s) (i + c) r ∨ (∃ x t, r = x :: t ∧ x = ((i + c : Nat) : Int)) := by
  induction c with
  | zero =>
    intro f s i r
    simp only [Nat.zero_add, Nat.add_zero, List.replicate_zero, List.nil_append]
    rw [sgnOf, if_pos rfl]
    cases r with
    | nil => left; rw [sgnOf]
    | cons x t =>
      by_cases h : x = (i : Int)
      · exact .inr ⟨x, t, rfl, h⟩
      · left; rw [sgnOf, if_neg h]
  | succ c ih =>
    intro f s i r
    rw [show c + 1 + (f + 1) = (c + (f + 1)) + 1 by omega, sgnOf, if_neg (by omega), show i + (c + 1) = i + 1 + c by omega]
    rcases ih f s (i + 1) r with h | h
    · left; rw [h]; rfl
    · exact .inr h

theorem cnt_append (P : UInt8 → Bool) (s : Int) (l : List UInt8) : ∀ (m : List UInt8) (v w : List Int), v.length = l.length → cnt P s (l ++ m) (v ++ w) = cnt P s l v + cnt P s m w := by
  induction l with
  | nil => intro m v w h; have : v = [] := List.eq_nil_of_length_eq_zero (by simpa using h); subst this; simp [cnt]
  | cons c l ih =>
    intro m v w h
    cases v with
    | nil => simp at h
    | cons a r => simp only [List.cons_append, cnt, ih m r w (by simpa using h)]; omega
theorem Bal.turn {l m : List UInt8} {v w : List Int} (hl : v.length = l.length) (hm : w.length = m.length) (h : Bal (l ++ m) (v ++ w)) : Bal (m ++ l) (w ++ v) := by
  intro j hj
  have := h j hj
  rw [cnt_append _ _ _ _ _ _ hl, cnt_append _ _ _ _ _ _ hl] at this
  rw [cnt_append _ _ _ _ _ _ hm, cnt_append _ _ _ _ _ _ hm]
  omega

/-- Fair cuts of a ring are balanced signs. -/
theorem ring_sgn (l : List UInt8) (L : List Int) (h : cutsB l.length 0 L = true) (he : L.length % 2 = 0) : fairRingP l L = true ↔ Bal l (sgnOf l.length 1 0 L) := by
  cases L with
  | nil => exact fair_sgn l [] h
  | cons c r =>
    have hh := h
    simp only [cutsB, Bool.and_eq_true, decide_eq_true_eq] at h
    obtain ⟨cn_, rfl⟩ := Int.eq_ofNat_of_zero_le h.1.1
    have hc : cn_ < l.length := by omega
    obtain ⟨f, hf⟩ : ∃ f, l.length = cn_ + (f + 1) := ⟨l.length - cn_ - 1, by omega⟩
    simp only [List.length_cons] at he
    have hlen : (openL l ((cn_ : Int) :: r)).length = l.length := by simp [openL]; omega
    -- the signs of the opened ring
    have hr1 : cutsB ((0 + (f + 1) : Nat) : Int) ((0 : Nat) : Int) (r.map (· - (cn_ : Int))) = true := by
      have : ∀ (r : List Int) (a b : Int), cutsB a b r = true → cutsB (a - cn_) (b - cn_) (r.map (· - (cn_ : Int))) = true := by
        intro r
        induction r with
        | nil => intro a b _; rfl
        | cons x t ih =>
          intro a b hx
          simp only [List.map_cons, cutsB, Bool.and_eq_true, decide_eq_true_eq] at hx ⊢
          refine ⟨⟨by omega, by omega⟩, ?_⟩
          have := ih _ _ hx.2
          rw [show x + 1 - (cn_ : Int) = x - cn_ + 1 by omega] at this
          exact this
      have h3 := this r _ _ h.2
      rw [show ((l.length : Int) - cn_) = ((0 + (f + 1) : Nat) : Int) by omega] at h3
      exact cutsB_dn _ _ _ _ h3 (by omega)
    have hr2 : cutsB ((0 + l.length : Nat) : Int) ((0 : Nat) : Int) (r.map (· - (cn_ : Int))) = true := by
      have : ∀ (L : List Int) (a b x : Int), cutsB a x L = true → a ≤ b → cutsB b x L = true := by
        intro L
        induction L with
        | nil => intro a b x _ _; rfl
        | cons y t ih =>
          intro a b x hx hab
          simp only [cutsB, Bool.and_eq_true, decide_eq_true_eq] at hx ⊢
          exact ⟨⟨hx.1.1, by omega⟩, ih _ _ _ hx.2 hab⟩
      exact this _ _ _ _ hr1 (by omega)
    have hpre := sgnOf_pre cn_ f 1 0 r
    rw [Nat.zero_add] at hpre
    have hpre : sgnOf (cn_ + (f + 1)) 1 0 ((cn_ : Int) :: r) = List.replicate cn_ 1 ++ sgnOf (f + 1) (-1) cn_ r := by
      rcases hpre with h1 | ⟨x, t, rfl, h1⟩
      · exact h1
      · have h2 := h.2; simp only [cutsB, Bool.and_eq_true, decide_eq_true_eq] at h2; omega
    have hv : sgnOf l.length 1 0 (r.map (· - (cn_ : Int))) = sgnOf (f + 1) 1 cn_ r ++ List.replicate cn_ (-1) := by
      rw [hf, show cn_ + (f + 1) = (f + 1) + cn_ by omega, sgnOf_app (f + 1) cn_ 1 0 _ hr1, sgnOf_shift, Nat.zero_add, List.length_map, if_neg (by omega)]
    rw [fairRingP, show openC ((cn_ : Int) :: r) = r.map (· - (cn_ : Int)) from rfl]
    have hfs := fair_sgn (openL l ((cn_ : Int) :: r)) (r.map (· - (cn_ : Int))) (by rw [hlen]; simpa using hr2)
    rw [hfs, hlen, hv]
    rw [hf, hpre]
    have e1 : openL l ((cn_ : Int) :: r) = l.drop cn_ ++ l.take cn_ := by simp [openL]
    rw [e1]
    have e2 : sgnOf (f + 1) (-1) cn_ r = (sgnOf (f + 1) 1 cn_ r).map (- ·) := sgnOf_neg _ _ _ _
    have l1 : (sgnOf (f + 1) 1 cn_ r).length = (l.drop cn_).length := by rw [sgnOf_len, List.length_drop]; omega
    have l2 : (List.replicate cn_ (1 : Int)).length = (l.take cn_).length := by simp; omega
    have l3 : (List.replicate cn_ (-1 : Int)).length = (l.take cn_).length := by simp; omega
    rw [e2]
    constructor
    · intro hB
      have := (hB.turn l1 l3).neg
      rw [List.take_append_drop, List.map_append, List.map_replicate, Int.neg_neg] at this
      exact this
    · intro hB
      have h3 : Bal (l.take cn_ ++ l.drop cn_) (List.replicate cn_ 1 ++ (sgnOf (f + 1) 1 cn_ r).map (- ·)) := by rw [List.take_append_drop]; exact hB
      have := (h3.turn l2 (by rw [List.length_map]; exact l1)).neg
      rw [List.map_append, List.map_map, List.map_replicate, show ((fun x : Int => -x) ∘ fun x => -x) = id from funext fun x => by simp, List.map_id] at this
      exact this

/-- The changes of a vector of signs around a ring. -/
def cyc (v : List Int) : Nat := match v.getLast? with | none => 0 | some a => chg a v
theorem cyc_even (v : List Int) (hv : Sgn v) : cyc v % 2 = 0 := by
  unfold cyc
  cases h : v.getLast? with
  | none => rfl
  | some a =>
    have ha := hv a (List.mem_of_getLast? h)
    have := sgn_last v a a ha hv h
    show chg a v % 2 = 0
    by_cases h2 : chg a v % 2 = 0
    · exact h2
    · rw [if_neg h2] at this; omega
theorem cyc_neg (v : List Int) : cyc (v.map (- ·)) = cyc v := by
  unfold cyc
  rw [List.getLast?_map]
  cases h : v.getLast? with
  | none => rfl
  | some a => exact chg_neg v a
theorem chg_snoc (v : List Int) : ∀ (s a : Int), chg s (v ++ [a]) = chg s v + if (v.getLast?.getD s) = a then 0 else 1 := by
  induction v with
  | nil => intro s a; simp [chg]; by_cases h : a = s
           · simp [h]
           · have : ¬ s = a := fun e => h e.symm
             simp [h, this]
  | cons b r ih =>
    intro s a
    simp only [List.cons_append, chg, ih]
    cases r with
    | nil => by_cases h : b = a <;> simp [h] <;> omega
    | cons c t =>
      rw [List.getLast?_cons_cons]
      cases h : (c :: t).getLast? with
      | none => simp at h
      | some z => simp only [Option.getD_some]; omega
theorem cyc_turn (a : Int) (v : List Int) : cyc (v ++ [a]) = cyc (a :: v) := by
  unfold cyc
  rw [List.getLast?_append]
  simp only [List.getLast?_singleton, Option.some_or]
  cases v with
  | nil => rfl
  | cons b t =>
    rw [List.getLast?_cons_cons, chg_snoc]
    cases h : (b :: t).getLast? with
    | none => simp at h
    | some z =>
      simp only [Option.getD_some, chg]
      by_cases e : z = a
      · subst e; omega
      · have e2 : ¬ a = z := fun k => e k.symm
        rw [if_neg e, if_neg e2]; omega

/-- A ring can be divided fairly by so many cuts. -/
def RingHas (l : List UInt8) (m : Nat) : Prop := ∃ L, L.length = m ∧ cutsB l.length 0 L = true ∧ fairRingP l L = true
def ChainHas (l : List UInt8) (m : Nat) : Prop := ∃ L, L.length = m ∧ cutsB l.length 1 L = true ∧ fairB l L = true
theorem ring_has (l : List UInt8) (m : Nat) (he : m % 2 = 0) : RingHas l m ↔ ∃ v, Sgn v ∧ v.length = l.length ∧ Bal l v ∧ cyc v = m := by
  constructor
  · rintro ⟨L, rfl, hc, hf⟩
    refine ⟨sgnOf l.length 1 0 L, sgnOf_sgn _ _ _ _ (.inl rfl), sgnOf_len _ _ _ _, (ring_sgn l L hc he).1 hf, ?_⟩
    have e := cutsAt_sgnOf l.length 1 0 L (.inl rfl) (by rw [Nat.zero_add]; exact hc)
    have hl := cutsAt_len (sgnOf l.length 1 0 L) 1 0
    rw [e] at hl
    unfold cyc
    cases h : (sgnOf l.length 1 0 L).getLast? with
    | none =>
      have : sgnOf l.length 1 0 L = [] := by simpa using h
      rw [this] at hl; exact hl.symm
    | some a =>
      have := sgn_last _ 1 a (.inl rfl) (sgnOf_sgn _ _ _ _ (.inl rfl)) h
      rw [← hl, if_pos he] at this
      subst this
      exact hl.symm
  · have key : ∀ v, Sgn v → v.length = l.length → Bal l v → cyc v = m → (∀ a, v.getLast? = some a → a = 1) → RingHas l m := by
      intro v hv hl hb hm ha
      have hlen : (cutsAt 1 0 v).length = m := by
        rw [cutsAt_len, ← hm, cyc]
        cases h : v.getLast? with
        | none => have : v = [] := by simpa using h
                  rw [this]; rfl
        | some a => rw [ha a h]
      have hcb : cutsB l.length 0 (cutsAt 1 0 v) = true := by have := cutsAt_cutsB v 1 0; rwa [Nat.zero_add, hl] at this
      refine ⟨cutsAt 1 0 v, hlen, hcb, ?_⟩
      rw [ring_sgn l _ hcb (by rw [hlen]; exact he)]
      have := sgnOf_cutsAt v 1 0 (.inl rfl) hv
      rw [hl] at this
      rw [this]; exact hb
    rintro ⟨v, hv, hl, hb, hm⟩
    cases h : v.getLast? with
    | none => exact key v hv hl hb hm (fun a ha => by rw [h] at ha; cases ha)
    | some a =>
      rcases hv a (List.mem_of_getLast? h) with rfl | rfl
      · exact key v hv hl hb hm (fun a ha => by rw [h] at ha; cases ha; rfl)
      · refine key (v.map (- ·)) hv.neg (by simpa using hl) hb.neg (by rw [cyc_neg]; exact hm) (fun a ha => ?_)
        rw [List.getLast?_map, h] at ha
        cases ha; rfl
theorem ring_turn1 (c : UInt8) (l : List UInt8) (m : Nat) (he : m % 2 = 0) : RingHas (c :: l) m ↔ RingHas (l ++ [c]) m := by
  rw [ring_has _ _ he, ring_has _ _ he]
  constructor
  · rintro ⟨v, hv, hl, hb, hm⟩
    cases v with
    | nil => simp at hl
    | cons a w =>
      refine ⟨w ++ [a], fun y hy => hv y (by simp at hy ⊢; exact hy.symm), by simpa using hl, ?_, by rw [cyc_turn]; exact hm⟩
      exact Bal.turn (l := [c]) (v := [a]) rfl (by simpa using hl) hb
  · rintro ⟨v, hv, hl, hb, hm⟩
    have hne : v ≠ [] := fun e => by rw [e] at hl; simp at hl
    obtain ⟨w, a, rfl⟩ : ∃ w a, v = w ++ [a] := ⟨_, _, (List.dropLast_concat_getLast hne).symm⟩
    refine ⟨a :: w, fun y hy => hv y (by simp at hy ⊢; exact hy.symm), by simpa using hl, ?_, by rw [← cyc_turn]; exact hm⟩
    exact Bal.turn (m := [c]) (w := [a]) (by simpa using hl) rfl hb
theorem ring_turn (a b : List UInt8) (m : Nat) (he : m % 2 = 0) : RingHas (a ++ b) m ↔ RingHas (b ++ a) m := by
  induction a generalizing b with
  | nil => simp
  | cons c a ih =>
    rw [List.cons_append, ring_turn1 _ _ _ he, List.append_assoc, ih (b ++ [c])]
    simp
theorem ring_chain (l : List UInt8) (m : Nat) (h : ChainHas l m) : RingHas l (m + m % 2) := by
  obtain ⟨L, rfl, hc, hf⟩ := h
  rw [ring_has _ _ (by omega)]
  have hc0 := cutsB_dn _ _ _ 0 hc (by omega)
  refine ⟨sgnOf l.length 1 0 L, sgnOf_sgn _ _ _ _ (.inl rfl), sgnOf_len _ _ _ _, (fair_sgn l L hc0).1 hf, ?_⟩
  have e := cutsAt_sgnOf l.length 1 0 L (.inl rfl) (by rw [Nat.zero_add]; exact hc0)
  have hl := cutsAt_len (sgnOf l.length 1 0 L) 1 0
  rw [e] at hl
  unfold cyc
  cases h : (sgnOf l.length 1 0 L).getLast? with
  | none =>
    have : sgnOf l.length 1 0 L = [] := by simpa using h
    rw [this] at hl; simp [chg] at hl; simp [hl]
  | some a =>
    have hsg := sgnOf_sgn l.length 1 0 L (.inl rfl)
    have := sgn_last _ 1 a (.inl rfl) hsg h
    rw [← hl] at this
    by_cases h2 : L.length % 2 = 0
    · rw [if_pos h2] at this; subst this; show chg 1 _ = _; rw [← hl]; omega
    · rw [if_neg h2] at this
      subst this
      show chg (-1) _ = _
      have hne : sgnOf l.length 1 0 L ≠ [] := fun e => by rw [e] at h; simp at h
      cases hv : sgnOf l.length 1 0 L with
      | nil => exact absurd hv hne
      | cons b t =>
        rw [hv] at hl
        have hb : b = 1 := by
          cases hl0 : l.length with
          | zero => rw [hl0] at hv; simp [sgnOf] at hv
          | succ n =>
            rw [hl0] at hv
            cases L with
            | nil => rw [sgnOf] at hv; cases hv; rfl
            | cons c r =>
              simp only [cutsB, Bool.and_eq_true, decide_eq_true_eq] at hc
              rw [sgnOf, if_neg (by omega)] at hv; cases hv; rfl
        subst hb
        simp only [chg] at hl ⊢
        simp at hl ⊢
        omega
end Go.Proofs.Ythelnggbcgjbcaa
