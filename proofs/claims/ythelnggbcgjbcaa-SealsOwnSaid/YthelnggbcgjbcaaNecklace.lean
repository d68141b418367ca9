/-
  A chain in which each kind occurs an even number of times is divided fairly by at most as many cuts as it has kinds. No program.
-/
import Derived.Test.YthelnggbcgjbcaaTucker
namespace Go.Proofs.Ythelnggbcgjbcaa

/-- One list of signs goes on another. -/
def Ext : List Int → List Int → Prop
  | [], [] => True
  | a :: r, b :: t => (a ≠ 0 → b = a) ∧ Ext r t
  | _, _ => False
def altT (s : Int) : List Int → Nat
  | [] => 0
  | y :: r => if y = s then 1 + altT s r else altT (-s) r
  termination_by l => l.length
def Has (x : List Int) : Prop := ∃ y ∈ x, y = 1 ∨ y = -1

theorem altT_nil (s : Int) : altT s [] = 0 := by unfold altT; rfl
theorem altT_cons (s y : Int) (r : List Int) : altT s (y :: r) = if y = s then 1 + altT s r else altT (-s) r := by rw [altT]
theorem altT_one (r : List Int) : ∀ s, s = 1 ∨ s = -1 → altT (-s) r ≤ 1 + altT s r := by
  induction r with
  | nil => intro s _; simp [altT_nil]
  | cons y r ih =>
    intro s hs
    rw [altT_cons, altT_cons, Int.neg_neg]
    have h1 := ih s hs
    have h2 := ih (-s) (by omega)
    rw [Int.neg_neg] at h2
    by_cases hy : y = s
    · have : ¬ y = -s := by omega
      simp only [hy, if_true]
      rw [if_neg (by omega)]; omega
    · by_cases hy2 : y = -s
      · rw [if_pos hy2, if_neg hy]; omega
      · rw [if_neg hy2, if_neg hy]; omega
theorem altT_mono (x : List Int) : ∀ (y : List Int) (s : Int), s = 1 ∨ s = -1 → Ext x y → altT s x ≤ altT s y := by
  induction x with
  | nil => intro y s _ h; rw [altT_nil]; omega
  | cons a r ih =>
    intro y s hs h
    cases y with
    | nil => exact h.elim
    | cons b t =>
      obtain ⟨h1, h2⟩ := h
      rw [altT_cons, altT_cons]
      have i1 := ih t s hs h2
      have i2 := ih t (-s) (by omega) h2
      have i3 := altT_one t s hs
      by_cases ha : a = 0
      · have : ¬ a = s := by omega
        rw [if_neg this]
        split <;> omega
      · rw [h1 ha]
        split <;> omega
theorem altT_ne (x : List Int) (h : Has x) : altT 1 x ≠ altT (-1) x := by
  induction x with
  | nil => obtain ⟨y, hy, _⟩ := h; simp at hy
  | cons a r ih =>
    rw [altT_cons, altT_cons, Int.neg_neg]
    by_cases h1 : a = 1
    · subst h1; simp
    · by_cases h2 : a = -1
      · subst h2; simp
      · rw [if_neg h1, if_neg h2]
        refine fun e => ih ?_ e.symm
        obtain ⟨y, hy, hy2⟩ := h
        rcases List.mem_cons.1 hy with rfl | hy
        · omega
        · exact ⟨y, hy, hy2⟩
theorem altT_neg (x : List Int) : ∀ s, altT s (x.map (- ·)) = altT (-s) x := by
  induction x with
  | nil => intro s; simp [altT_nil]
  | cons a r ih =>
    intro s
    rw [List.map_cons, altT_cons, altT_cons, ih, ih]
    by_cases h : a = -s
    · rw [if_pos (by omega), if_pos h]
    · rw [if_neg (by omega), if_neg h]
theorem altT_len (x : List Int) : ∀ s, altT s x ≤ x.length := by
  induction x with
  | nil => intro s; simp [altT_nil]
  | cons a r ih =>
    intro s
    rw [altT_cons, List.length_cons]
    have := ih s
    have := ih (-s)
    split <;> omega

/-- How many places of a kind bear a sign. -/
def cnt (P : UInt8 → Bool) (s : Int) : List UInt8 → List Int → Nat
  | c :: r, y :: x => (if P c = true ∧ y = s then 1 else 0) + cnt P s r x
  | _, _ => 0
theorem cnt_mono (P : UInt8 → Bool) (s : Int) (hs : s ≠ 0) (l : List UInt8) : ∀ (x y : List Int), Ext x y → cnt P s l x ≤ cnt P s l y := by
  induction l with
  | nil => intro x y _; simp [cnt]
  | cons c l ih =>
    intro x y h
    cases x with
    | nil => simp [cnt]
    | cons a r =>
      cases y with
      | nil => exact h.elim
      | cons b t =>
        have := ih r t h.2
        simp only [cnt]
        by_cases h1 : P c = true ∧ a = s
        · have : b = s := by rw [h.1 (by rw [h1.2]; exact hs)]; exact h1.2
          rw [if_pos h1, if_pos ⟨h1.1, this⟩]; omega
        · rw [if_neg h1]; omega
theorem cnt_neg (P : UInt8 → Bool) (s : Int) (l : List UInt8) : ∀ (x : List Int), cnt P s l (x.map (- ·)) = cnt P (-s) l x := by
  induction l with
  | nil => intro x; simp [cnt]
  | cons c l ih =>
    intro x
    cases x with
    | nil => simp [cnt]
    | cons a r =>
      simp only [List.map_cons, cnt, ih]
      by_cases h : P c = true ∧ a = -s
      · rw [if_pos ⟨h.1, by omega⟩, if_pos h]
      · rw [if_neg (fun k => h ⟨k.1, by omega⟩), if_neg h]
theorem cnt_two (P : UInt8 → Bool) (l : List UInt8) : ∀ (x : List Int), cnt P 1 l x + cnt P (-1) l x ≤ l.countP P := by
  induction l with
  | nil => intro x; simp [cnt]
  | cons c l ih =>
    intro x
    cases x with
    | nil => simp [cnt]
    | cons a r =>
      have := ih r
      simp only [cnt, List.countP_cons]
      by_cases hP : P c = true
      · by_cases h1 : a = 1
        · have : ¬ a = -1 := by omega
          simp [hP, h1]; omega
        · simp [hP, h1]; split <;> omega
      · simp [hP]; omega

/-- The label of a list of signs. -/
def lamL (l : List UInt8) : List (UInt8 → Bool) → Nat → List Int → Int
  | [], r, x => if altT (-1) x < altT 1 x then (r + altT 1 x : Nat) else if altT 1 x < altT (-1) x then -((r + altT (-1) x : Nat) : Int) else 0
  | P :: ks, r, x => if l.countP P / 2 < cnt P 1 l x then (r + 1 : Nat) else if l.countP P / 2 < cnt P (-1) l x then -((r + 1 : Nat) : Int) else lamL l ks (r + 1) x
theorem lamL_neg (l : List UInt8) (ks : List (UInt8 → Bool)) : ∀ (r : Nat) (x : List Int), lamL l ks r (x.map (- ·)) = - lamL l ks r x := by
  induction ks with
  | nil =>
    intro r x
    simp only [lamL, altT_neg, Int.neg_neg]
    by_cases h1 : altT (-1) x < altT 1 x
    · rw [if_neg (by omega), if_pos h1, if_pos h1]
    · rw [if_neg h1, if_neg h1]
      by_cases h2 : altT 1 x < altT (-1) x
      · rw [if_pos h2, if_pos h2, Int.neg_neg]
      · rw [if_neg h2, if_neg h2]; rfl
  | cons P ks ih =>
    intro r x
    simp only [lamL, cnt_neg, Int.neg_neg, ih]
    have := cnt_two P l x
    by_cases h1 : l.countP P / 2 < cnt P 1 l x
    · rw [if_neg (by omega), if_pos h1, if_pos h1]
    · rw [if_neg h1, if_neg h1]
      by_cases h2 : l.countP P / 2 < cnt P (-1) l x
      · rw [if_pos h2, if_pos h2, Int.neg_neg]
      · rw [if_neg h2, if_neg h2]
theorem lamL_abs (l : List UInt8) (ks : List (UInt8 → Bool)) : ∀ (r : Nat) (x : List Int), Has x → r < (lamL l ks r x).natAbs := by
  induction ks with
  | nil =>
    intro r x hx
    have := altT_ne x hx
    simp only [lamL]
    split
    · omega
    · split <;> omega
  | cons P ks ih =>
    intro r x hx
    have := ih (r + 1) x hx
    simp only [lamL]
    split
    · omega
    · split <;> omega
theorem lamL_opp (l : List UInt8) (ks : List (UInt8 → Bool)) : ∀ (r : Nat) (x y : List Int), Has x → Has y → Ext x y → lamL l ks r y ≠ - lamL l ks r x := by
  induction ks with
  | nil =>
    intro r x y hx hy h
    have m1 := altT_mono x y 1 (by simp) h
    have m2 := altT_mono x y (-1) (by simp) h
    have n1 := altT_ne x hx
    have n2 := altT_ne y hy
    simp only [lamL]
    split <;> split <;> (try split) <;> (try split) <;> omega
  | cons P ks ih =>
    intro r x y hx hy h
    have m1 := cnt_mono P 1 (by simp) l x y h
    have m2 := cnt_mono P (-1) (by simp) l x y h
    have c1 := cnt_two P l y
    have a1 := lamL_abs l ks (r + 1) x hx
    have a2 := lamL_abs l ks (r + 1) y hy
    have i1 := ih (r + 1) x y hx hy h
    simp only [lamL]
    split <;> split <;> (try split) <;> (try split) <;> omega
theorem lamL_big (l : List UInt8) (ks : List (UInt8 → Bool)) : ∀ (r : Nat) (x : List Int) (n : Nat), r + ks.length < n → n ≤ (lamL l ks r x).natAbs →
    (∀ P ∈ ks, cnt P 1 l x ≤ l.countP P / 2 ∧ cnt P (-1) l x ≤ l.countP P / 2) ∧ ∃ s, (s = 1 ∨ s = -1) ∧ n ≤ r + ks.length + altT s x := by
  induction ks with
  | nil =>
    intro r x n hn h
    refine ⟨by simp, ?_⟩
    simp only [lamL] at h
    split at h
    · exact ⟨1, .inl rfl, by simp; omega⟩
    · split at h
      · exact ⟨-1, .inr rfl, by simp; omega⟩
      · simp at h; omega
  | cons P ks ih =>
    intro r x n hn h
    simp only [List.length_cons] at hn
    simp only [lamL] at h
    split at h
    · omega
    · split at h
      · omega
      · obtain ⟨h1, s, h2, h3⟩ := ih (r + 1) x n (by omega) h
        refine ⟨fun Q hQ => ?_, s, h2, by simp only [List.length_cons]; omega⟩
        rcases List.mem_cons.1 hQ with rfl | hQ
        · omega
        · exact h1 Q hQ

/-! ### Filling the places that bear no sign -/
def Tri (x : List Int) : Prop := ∀ y ∈ x, y = 0 ∨ y = 1 ∨ y = -1
def Sgn (v : List Int) : Prop := ∀ y ∈ v, y = 1 ∨ y = -1
def pj (j : Nat) : UInt8 → Bool := fun c => c.toNat == 97 + j
theorem cn_pj (l : List UInt8) (j : Nat) : cn l j = l.countP (pj j) := rfl

theorem cnt_three (P : UInt8 → Bool) (l : List UInt8) : ∀ (x : List Int), Tri x → x.length = l.length → cnt P 1 l x + cnt P 0 l x + cnt P (-1) l x = l.countP P := by
  induction l with
  | nil => intro x _ _; simp [cnt]
  | cons c l ih =>
    intro x hx hl
    cases x with
    | nil => simp at hl
    | cons a r =>
      have := ih r (fun y hy => hx y (by simp [hy])) (by simpa using hl)
      simp only [cnt, List.countP_cons]
      by_cases hP : P c = true
      · rcases hx a (by simp) with rfl | rfl | rfl <;> simp [hP] <;> omega
      · simp [hP]; omega

def fill : (Nat → Nat) → List UInt8 → List Int → List Int
  | need, c :: l, y :: x => if y = 0 then (if 0 < need c.toNat then 1 :: fill (fun d => if d = c.toNat then need d - 1 else need d) l x else -1 :: fill need l x) else y :: fill need l x
  | _, _, _ => []
theorem fill_len (l : List UInt8) : ∀ (x : List Int) (need : Nat → Nat), x.length = l.length → (fill need l x).length = l.length := by
  induction l with
  | nil => intro x need h; cases x <;> simp [fill]
  | cons c l ih =>
    intro x need h
    cases x with
    | nil => simp at h
    | cons a r =>
      have hr : r.length = l.length := by simpa using h
      simp only [fill]
      split
      · split <;> simp [ih r _ hr]
      · simp [ih r _ hr]
theorem fill_sgn (l : List UInt8) : ∀ (x : List Int) (need : Nat → Nat), Tri x → Sgn (fill need l x) := by
  induction l with
  | nil => intro x need h y hy; cases x <;> simp [fill] at hy
  | cons c l ih =>
    intro x need h
    cases x with
    | nil => intro y hy; simp [fill] at hy
    | cons a r =>
      have hr : Tri r := fun y hy => h y (by simp [hy])
      have ha := h a (by simp)
      simp only [fill]
      intro y hy
      split at hy
      · split at hy
        · rcases List.mem_cons.1 hy with rfl | hy
          · exact .inl rfl
          · exact ih r _ hr y hy
        · rcases List.mem_cons.1 hy with rfl | hy
          · exact .inr rfl
          · exact ih r _ hr y hy
      · rcases List.mem_cons.1 hy with rfl | hy
        · omega
        · exact ih r _ hr y hy
theorem fill_ext (l : List UInt8) : ∀ (x : List Int) (need : Nat → Nat), x.length = l.length → Ext x (fill need l x) := by
  induction l with
  | nil => intro x need h; have : x = [] := List.eq_nil_of_length_eq_zero (by simpa using h); subst this; simp [fill, Ext]
  | cons c l ih =>
    intro x need h
    cases x with
    | nil => simp at h
    | cons a r =>
      have hr : r.length = l.length := by simpa using h
      simp only [fill]
      split
      · split
        · exact ⟨fun h => absurd ‹a = 0› h, ih r _ hr⟩
        · exact ⟨fun h => absurd ‹a = 0› h, ih r _ hr⟩
      · exact ⟨fun _ => rfl, ih r _ hr⟩
theorem fill_cnt (j : Nat) (l : List UInt8) : ∀ (x : List Int) (need : Nat → Nat), Tri x → x.length = l.length → cnt (pj j) 1 l (fill need l x) = cnt (pj j) 1 l x + min (need (97 + j)) (cnt (pj j) 0 l x) := by
  induction l with
  | nil => intro x need _ _; simp [cnt]
  | cons c l ih =>
    intro x need hx h
    cases x with
    | nil => simp at h
    | cons a r =>
      have hr : r.length = l.length := by simpa using h
      have ht : Tri r := fun y hy => hx y (by simp [hy])
      simp only [fill]
      by_cases ha : a = 0
      · subst ha
        rw [if_pos rfl]
        by_cases hn : 0 < need c.toNat
        · rw [if_pos hn]
          simp only [cnt, ih r _ ht hr]
          by_cases hP : c.toNat = 97 + j
          · simp [pj, hP] at hn ⊢
            omega
          · have : ¬ 97 + j = c.toNat := fun e => hP e.symm
            simp [pj, hP, this]
        · rw [if_neg hn]
          simp only [cnt, ih r _ ht hr]
          by_cases hP : c.toNat = 97 + j
          · simp [pj, hP] at hn ⊢
            omega
          · simp [pj, hP]
      · rw [if_neg ha]
        simp only [cnt, ih r _ ht hr]
        simp [ha]
        omega

/-! ### Sign changes -/
def chg : Int → List Int → Nat
  | _, [] => 0
  | s, v :: r => (if v = s then 0 else 1) + chg v r
theorem chg_one (v : List Int) (s t : Int) : chg s v ≤ 1 + chg t v := by
  cases v with
  | nil => simp [chg]
  | cons a r => simp only [chg]; split <;> split <;> omega
theorem chg_alt (x : List Int) : ∀ (v : List Int) (s : Int), (s = 1 ∨ s = -1) → Tri x → Sgn v → Ext x v → chg s v + altT s x ≤ v.length := by
  induction x with
  | nil => intro v s _ _ _ h; cases v with
    | nil => simp [chg, altT_nil]
    | cons b t => exact h.elim
  | cons a r ih =>
    intro v s hs hx hv h
    cases v with
    | nil => exact h.elim
    | cons b t =>
      obtain ⟨h1, h2⟩ := h
      have hxr : Tri r := fun y hy => hx y (by simp [hy])
      have hvt : Sgn t := fun y hy => hv y (by simp [hy])
      have hb := hv b (by simp)
      have ha := hx a (by simp)
      rw [altT_cons, chg, List.length_cons]
      by_cases has : a = s
      · have hbs : b = s := by rw [h1 (by omega)]; exact has
        rw [if_pos has, if_pos hbs, hbs]
        have := ih t s hs hxr hvt h2
        omega
      · rw [if_neg has]
        have i2 := ih t (-s) (by omega) hxr hvt h2
        by_cases hbs : b = s
        · have := chg_one t s (-s)
          rw [if_pos hbs, hbs]; omega
        · have : b = -s := by omega
          rw [if_neg hbs, this]; omega

/-- The sign vectors of a chain that are balanced: of each letter as many bear + as -. -/
def Bal (l : List UInt8) (v : List Int) : Prop := ∀ j, j < 4 → cnt (pj j) 1 l v = cnt (pj j) (-1) l v

theorem cnt_zero (P : UInt8 → Bool) (l : List UInt8) : ∀ (v : List Int), Sgn v → cnt P 0 l v = 0 := by
  induction l with
  | nil => intro v _; simp [cnt]
  | cons c l ih =>
    intro v hv
    cases v with
    | nil => simp [cnt]
    | cons a r =>
      have := hv a (by simp)
      have : ¬ a = 0 := by omega
      simp [cnt, this, ih r (fun y hy => hv y (by simp [hy]))]

def kindsL (l : List UInt8) : List Nat := [0, 1, 2, 3].filter (fun j => decide (0 < cn l j))
theorem kindsL_len (l : List UInt8) : (kindsL l).length = kindsN l := by
  unfold kindsL kindsN
  rcases Nat.eq_zero_or_pos (cn l 0) with h0 | h0 <;> rcases Nat.eq_zero_or_pos (cn l 1) with h1 | h1 <;> rcases Nat.eq_zero_or_pos (cn l 2) with h2 | h2 <;> rcases Nat.eq_zero_or_pos (cn l 3) with h3 | h3 <;>
    simp [h0, h1, h2, h3] <;> omega

theorem cn_total (l : List UInt8) (h : l.all okb = true) : cn l 0 + cn l 1 + cn l 2 + cn l 3 = l.length := by
  induction l with
  | nil => rfl
  | cons c r ih =>
    simp only [List.all_cons, Bool.and_eq_true] at h
    have := ih h.2
    have hc := (okb_iff c).1 h.1
    simp only [cn_cons, List.length_cons]
    rcases (show c.toNat = 97 ∨ c.toNat = 98 ∨ c.toNat = 99 ∨ c.toNat = 100 by omega) with e | e | e | e <;> simp [e] <;> omega

theorem ext_map (v w : Nat → Int) (h : ∀ c, v c ≠ 0 → w c = v c) (k : List Nat) : Ext (k.map v) (k.map w) := by
  induction k with
  | nil => trivial
  | cons a k ih => exact ⟨h a, ih⟩

theorem vec_tri (q : List (Nat × Int)) (h : ∀ y ∈ q, y.2 = 1 ∨ y.2 = -1) (c : Nat) : vec q c = 0 ∨ vec q c = 1 ∨ vec q c = -1 := by
  induction q with
  | nil => left; rfl
  | cons x q ih =>
    have := ih fun y hy => h y (by simp [hy])
    have hx := h x (by simp)
    simp only [vec, upd]
    split
    · exact this
    · split
      · omega
      · left; rfl
theorem vec_has (x : Nat × Int) (q : List (Nat × Int)) (h : ∀ y ∈ x :: q, y.2 = 1 ∨ y.2 = -1) : vec (x :: q) x.1 = 1 ∨ vec (x :: q) x.1 = -1 := by
  have h1 := vec_tri q (fun y hy => h y (by simp [hy])) x.1
  have hx := h x (by simp)
  simp only [vec, upd]
  split
  · omega
  · simpa using hx

/-- An even chain has a balanced vector of signs with at most as many changes as there are kinds. -/
theorem necklace (l : List UInt8) (hok : l.all okb = true) (hev : evenB l = true) (hne : l ≠ []) : ∃ v s, Sgn v ∧ v.length = l.length ∧ (s = 1 ∨ s = -1) ∧ Bal l v ∧ chg s v ≤ kindsN l := by
  have hlen : 0 < l.length := List.length_pos_iff.2 hne
  have hev' : ∀ j, j < 4 → cn l j % 2 = 0 := by
    simp [evenB] at hev
    intro j hj
    rcases (show j = 0 ∨ j = 1 ∨ j = 2 ∨ j = 3 by omega) with rfl | rfl | rfl | rfl <;> omega
  have hk : kindsN l < l.length := by
    have h0 := hev' 0 (by omega); have h1 := hev' 1 (by omega); have h2 := hev' 2 (by omega); have h3 := hev' 3 (by omega)
    have := cn_total l hok
    unfold kindsN; omega
  obtain ⟨x, q, hxq, hbig⟩ := tucker (fun v => lamL l ((kindsL l).map pj) 0 ((List.range l.length).map v)) l.length hlen
    (fun v => by
      rw [show (List.range l.length).map (fun c => - v c) = ((List.range l.length).map v).map (- ·) by rw [List.map_map]; rfl]
      exact lamL_neg _ _ _ _)
    (fun x q h => by
      have := lamL_abs l ((kindsL l).map pj) 0 ((List.range l.length).map (vec (x :: q))) ⟨vec (x :: q) x.1, List.mem_map.2 ⟨x.1, List.mem_range.2 (h x (by simp)).1, rfl⟩, vec_has x q fun y hy => (h y hy).2⟩
      omega)
    (fun x q h v hv => by
      have hh := vec_has x q fun y hy => (h y hy).2
      have hm : x.1 ∈ List.range l.length := List.mem_range.2 (h x (by simp)).1
      refine lamL_opp l _ 0 _ _ ⟨vec (x :: q) x.1, List.mem_map.2 ⟨x.1, hm, rfl⟩, hh⟩ ⟨v x.1, List.mem_map.2 ⟨x.1, hm, rfl⟩, ?_⟩ (ext_map _ _ hv _)
      rw [hv x.1 (by omega)]; exact hh)
  obtain ⟨X, hX⟩ : ∃ X, X = (List.range l.length).map (vec (x :: q)) := ⟨_, rfl⟩
  have hXt : Tri X := by
    intro y hy; rw [hX] at hy
    obtain ⟨c, _, rfl⟩ := List.mem_map.1 hy
    exact vec_tri _ (fun y hy => (hxq y hy).2) c
  have hXl : X.length = l.length := by rw [hX]; simp
  obtain ⟨hmaj, s, hs, hal⟩ := lamL_big l ((kindsL l).map pj) 0 X l.length (by rw [List.length_map, kindsL_len]; omega) (by rw [hX]; exact hbig)
  rw [List.length_map, kindsL_len, Nat.zero_add] at hal
  obtain ⟨V, hV⟩ : ∃ V, V = fill (fun d => cn l (d - 97) / 2 - cnt (pj (d - 97)) 1 l X) l X := ⟨_, rfl⟩
  have hVs : Sgn V := by rw [hV]; exact fill_sgn l X _ hXt
  have hVl : V.length = l.length := by rw [hV]; exact fill_len l X _ hXl
  have hVe : Ext X V := by rw [hV]; exact fill_ext l X _ hXl
  refine ⟨V, s, hVs, hVl, hs, fun j hj => ?_, ?_⟩
  · have h1 := fill_cnt j l X (fun d => cn l (d - 97) / 2 - cnt (pj (d - 97)) 1 l X) hXt hXl
    rw [← hV, show 97 + j - 97 = j by omega] at h1
    have h2 := cnt_three (pj j) l X hXt hXl
    have h3 := cnt_three (pj j) l V (fun y hy => .inr (hVs y hy)) hVl
    have h4 := cnt_zero (pj j) l V hVs
    have h5 := hev' j hj
    rw [← cn_pj] at h2 h3
    have h6 : cnt (pj j) 1 l X ≤ cn l j / 2 ∧ cnt (pj j) (-1) l X ≤ cn l j / 2 := by
      by_cases h0 : 0 < cn l j
      · refine hmaj (pj j) (List.mem_map.2 ⟨j, ?_, rfl⟩)
        unfold kindsL
        rw [List.mem_filter]
        refine ⟨?_, by simpa using h0⟩
        rcases (show j = 0 ∨ j = 1 ∨ j = 2 ∨ j = 3 by omega) with rfl | rfl | rfl | rfl <;> simp
      · omega
    omega
  · have := chg_alt X V s hs hXt hVs hVe
    omega
end Go.Proofs.Ythelnggbcgjbcaa
