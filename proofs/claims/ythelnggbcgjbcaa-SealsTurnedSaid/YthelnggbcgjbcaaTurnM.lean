/-
  A chain turned round, and a chain with its letters renamed. No walk.
-/
import Derived.Test.YthelnggbcgjbcaaFacts
import Derived.Test.YthelnggbcgjbcaaGrp
import Derived.Test.YthelnggbcgjbcaaWaysR
namespace Go.Proofs.Ythelnggbcgjbcaa

/-! ### Turned round -/
def tn (n : Nat) (L : List Int) : List Int := L.reverse.map (fun x => (n : Int) - x)
def inn (v : List Int) (i : Nat) : List Int := match v with | [] => [] | a :: r => cutsAt a (i + 1) r
theorem lastS_cons (s a : Int) (r : List Int) : lastS s (a :: r) = lastS a r := by
  unfold lastS
  cases r with
  | nil => rfl
  | cons b t => rw [List.getLast?_cons_cons]; simp [List.getLast?_eq_some_getLast]
theorem cutsAt_snoc (r : List Int) : ∀ (s : Int) (i : Nat) (b : Int), cutsAt s i (r ++ [b]) = cutsAt s i r ++ if b = lastS s r then [] else [((i + r.length : Nat) : Int)] := by
  induction r with
  | nil => intro s i b; by_cases h : b = s <;> simp [cutsAt, lastS, h]
  | cons a t ih =>
    intro s i b
    rw [List.cons_append, cutsAt, cutsAt, ih, ih, lastS_cons, List.length_cons, show i + 1 + t.length = i + (t.length + 1) by omega]
    by_cases h : a = s
    · rw [if_pos h, if_pos h, h]
    · rw [if_neg h, if_neg h]; rfl
theorem cutsAt_shift (r : List Int) : ∀ (s : Int) (i : Nat), cutsAt s (i + 1) r = (cutsAt s i r).map (· + 1) := by
  induction r with
  | nil => intro s i; rfl
  | cons a t ih =>
    intro s i
    rw [cutsAt, cutsAt]
    by_cases h : a = s
    · rw [if_pos h, if_pos h, ih]
    · rw [if_neg h, if_neg h, ih]; simp
theorem inn_reverse (v : List Int) : inn v.reverse 0 = tn v.length (inn v 0) := by
  induction v with
  | nil => rfl
  | cons a r ih =>
    cases r with
    | nil => rfl
    | cons b t =>
      rw [List.reverse_cons]
      obtain ⟨c, q, hcq⟩ : ∃ c q, (b :: t).reverse = c :: q := by
        cases h : (b :: t).reverse with
        | nil => simp at h
        | cons c q => exact ⟨c, q, rfl⟩
      have hlast : lastS c q = b := by
        have h1 : (c :: q).getLast? = some b := by rw [← hcq, List.getLast?_reverse]; rfl
        have h2 : lastS b (c :: q) = b := by unfold lastS; rw [h1]; rfl
        rw [lastS_cons] at h2
        exact h2
      have hlen : q.length + 1 = t.length + 1 := by
        have := congrArg List.length hcq
        simpa using this.symm
      rw [hcq] at ih ⊢
      have e1 : inn (c :: q ++ [a]) 0 = cutsAt c 1 (q ++ [a]) := rfl
      have e2 : inn (c :: q) 0 = cutsAt c 1 q := rfl
      rw [e1, cutsAt_snoc, hlast, ← e2, ih]
      have e3 : inn (b :: t) 0 = cutsAt b 1 t := rfl
      have e4 : inn (a :: b :: t) 0 = cutsAt a 1 (b :: t) := rfl
      rw [e3, e4, cutsAt, cutsAt_shift t _ 1]
      have hm : ∀ X : List Int, tn (t.length + 1 + 1) (X.map (· + 1)) = tn (t.length + 1) X := by
        intro X
        unfold tn
        rw [← List.map_reverse, List.map_map]
        refine List.map_congr_left fun x _ => ?_
        simp only [Function.comp]
        omega
      by_cases h : b = a
      · subst h
        rw [if_pos rfl, if_pos rfl, List.append_nil]
        simp only [List.length_cons]
        rw [hm]
      · rw [if_neg (fun e => h e.symm), if_neg h, cutsAt_shift t _ 1]
        simp only [List.length_cons]
        have : tn (t.length + 1 + 1) (((1 : Nat) : Int) :: (cutsAt b 1 t).map (· + 1)) = tn (t.length + 1 + 1) ((cutsAt b 1 t).map (· + 1)) ++ [((t.length + 1 + 1 : Nat) : Int) - ((1 : Nat) : Int)] := by
          simp [tn]
        rw [this, hm]
        congr 2
        omega
theorem cnt_reverse (P : UInt8 → Bool) (s : Int) (l : List UInt8) : ∀ v : List Int, v.length = l.length → cnt P s l.reverse v.reverse = cnt P s l v := by
  induction l with
  | nil => intro v h; have : v = [] := List.eq_nil_of_length_eq_zero (by simpa using h); subst this; rfl
  | cons c l ih =>
    intro v h
    cases v with
    | nil => simp at h
    | cons a r =>
      rw [List.reverse_cons, List.reverse_cons, cnt_append _ _ _ _ _ _ (by simpa using h), ih r (by simpa using h)]
      simp only [cnt]; omega
theorem Bal.reverse {l : List UInt8} {v : List Int} (h : Bal l v) (hl : v.length = l.length) : Bal l.reverse v.reverse := by
  intro j hj
  rw [cnt_reverse _ _ _ _ hl, cnt_reverse _ _ _ _ hl]
  exact h j hj
theorem inn_neg (v : List Int) : inn (v.map (- ·)) 0 = inn v 0 := by
  cases v with
  | nil => rfl
  | cons a r =>
    show cutsAt (-a) 1 (r.map (- ·)) = cutsAt a 1 r
    have : ∀ (r : List Int) (s : Int) (i : Nat), cutsAt (-s) i (r.map (- ·)) = cutsAt s i r := by
      intro r
      induction r with
      | nil => intro s i; rfl
      | cons b t ih =>
        intro s i
        rw [List.map_cons, cutsAt, cutsAt]
        by_cases h : b = s
        · rw [if_pos (by omega), if_pos h, ih]
        · rw [if_neg (by omega), if_neg h, ih]
    exact this r a 1
theorem fair_inn (l : List UInt8) (v : List Int) (hv : Sgn v) (hl : v.length = l.length) : fairB l (inn v 0) = true ↔ Bal l v := by
  cases v with
  | nil =>
    have : l = [] := List.eq_nil_of_length_eq_zero (by simpa using hl.symm)
    subst this
    exact fair_bal [] [] hv rfl
  | cons a r =>
    rcases hv a (by simp) with rfl | rfl
    · rw [← fair_bal l _ hv hl, cutsAt, if_pos rfl]; rfl
    · have h1 := inn_neg (-1 :: r)
      rw [← h1]
      have h2 := fair_bal l ((-1 :: r).map (- ·)) hv.neg (by simpa using hl)
      rw [List.map_cons, cutsAt, if_pos (show (- -1 : Int) = 1 from rfl)] at h2
      have e : inn ((-1 :: r).map (- ·)) 0 = cutsAt 1 (0 + 1) (r.map (- ·)) := rfl
      rw [e, h2]
      constructor
      · intro h
        have := h.neg
        simpa [Function.comp_def] using this
      · intro h
        have := h.neg
        rwa [List.map_cons] at this
theorem cuts_inn (n : Nat) (L : List Int) (h : cutsB n 1 L = true) : inn (sgnOf n 1 0 L) 0 = L := by
  cases n with
  | zero =>
    cases L with
    | nil => rfl
    | cons c r => simp only [cutsB, Bool.and_eq_true, decide_eq_true_eq] at h; omega
  | succ n =>
    have e := cutsAt_sgnOf (n + 1) 1 0 L (.inl rfl) (by rw [Nat.zero_add]; exact cutsB_dn _ _ _ _ h (by omega))
    have hh : ∃ r, sgnOf (n + 1) 1 0 L = 1 :: r := by
      cases L with
      | nil => rw [sgnOf]; exact ⟨_, rfl⟩
      | cons c r =>
        simp only [cutsB, Bool.and_eq_true, decide_eq_true_eq] at h
        rw [sgnOf, if_neg (by omega)]; exact ⟨_, rfl⟩
    obtain ⟨r, hr⟩ := hh
    rw [hr] at e ⊢
    rw [cutsAt, if_pos rfl] at e
    exact e
theorem inn_cuts (v : List Int) : cutsB v.length 1 (inn v 0) = true := by
  cases v with
  | nil => rfl
  | cons a r =>
    have := cutsAt_cutsB r a 1
    rw [show ((1 + r.length : Nat) : Int) = ((a :: r).length : Nat) by simp; omega] at this
    exact this
theorem tn_cuts (n : Nat) (L : List Int) (h : cutsB n 1 L = true) : cutsB n 1 (tn n L) = true := by
  have e := cuts_inn n L h
  have h1 := inn_reverse (sgnOf n 1 0 L)
  rw [e, sgnOf_len] at h1
  rw [← h1]
  have := inn_cuts (sgnOf n 1 0 L).reverse
  rwa [List.length_reverse, sgnOf_len] at this
theorem tn_tn (n : Nat) (L : List Int) : tn n (tn n L) = L := by
  unfold tn
  rw [← List.map_reverse, List.reverse_reverse, List.map_map]
  conv => rhs; rw [← List.map_id L]
  refine List.map_congr_left fun x _ => ?_
  simp only [Function.comp, id]; omega
theorem tn_fair (l : List UInt8) (L : List Int) (h : cutsB l.length 1 L = true) : fairB l.reverse (tn l.length L) = fairB l L := by
  have e := cuts_inn l.length L h
  have h1 := inn_reverse (sgnOf l.length 1 0 L)
  rw [e, sgnOf_len] at h1
  have hs := sgnOf_sgn l.length 1 0 L (.inl rfl)
  have hr : Sgn (sgnOf l.length 1 0 L).reverse := fun y hy => hs y (List.mem_reverse.1 hy)
  have f1 := fair_inn l (sgnOf l.length 1 0 L) hs (sgnOf_len _ _ _ _)
  have f2 := fair_inn l.reverse (sgnOf l.length 1 0 L).reverse hr (by simp [sgnOf_len])
  rw [e] at f1
  rw [h1] at f2
  rw [Bool.eq_iff_iff, f1, f2]
  constructor
  · intro hb
    have := hb.reverse (by simp [sgnOf_len])
    simpa using this
  · intro hb
    exact hb.reverse (sgnOf_len _ _ _ _)
theorem chainHas_reverse (l : List UInt8) (m : Nat) : ChainHas l m → ChainHas l.reverse m := by
  rintro ⟨L, rfl, h1, h2⟩
  exact ⟨tn l.length L, by simp [tn], by rw [List.length_reverse]; exact tn_cuts _ _ h1, by rw [tn_fair l L h1]; exact h2⟩
theorem cn_reverse (l : List UInt8) (j : Nat) : cn l.reverse j = cn l j := by unfold cn; exact List.countP_reverse
theorem even_reverse (l : List UInt8) (h : evenChainB l = true) : evenChainB l.reverse = true := by
  simp only [evenChainB, chainB, evenB, cn_reverse, List.length_reverse, List.all_reverse] at h ⊢
  exact h
theorem least_reverse (l : List UInt8) (h : evenChainB l = true) : (leastC l.reverse).length = (leastC l).length := by
  obtain ⟨a1, a2, -, a4, -⟩ := least_spec l h
  obtain ⟨b1, b2, -, b4, -⟩ := least_spec _ (even_reverse l h)
  have ha : ChainHas l (leastC l).length := ⟨_, rfl, a1, a2⟩
  have hb : ChainHas l.reverse (leastC l.reverse).length := ⟨_, rfl, b1, b2⟩
  have hb' := chainHas_reverse _ _ hb
  rw [List.reverse_reverse] at hb'
  rcases Nat.lt_trichotomy (leastC l.reverse).length (leastC l).length with h1 | h1 | h1
  · exact absurd hb' (a4 _ h1)
  · exact h1
  · exact absurd (chainHas_reverse _ _ ha) (b4 _ h1)
theorem lsts_nodup : ∀ (d m f : Nat), (lsts m f d).Nodup := by
  intro d
  induction d with
  | zero => intro m f; cases m <;> simp [lsts]
  | succ d ih =>
    intro m f
    cases m with
    | zero => simp [lsts]
    | succ m =>
      simp only [lsts]
      refine List.nodup_append.2 ⟨?_, ih _ _, ?_⟩
      · exact List.Pairwise.map _ (fun a b hab e => hab (List.cons.inj e).2) (ih m (f + 1))
      · intro a ha b hb e
        obtain ⟨y, _, rfl⟩ := List.mem_map.1 ha
        subst e
        have := ((lsts_mem _ _ _ _).1 hb).2
        simp only [cutsB, Bool.and_eq_true, decide_eq_true_eq] at this
        omega
theorem ways_reverse (l : List UInt8) (m : Nat) : waysN l.reverse [] m 1 = waysN l [] m 1 := by
  unfold waysN
  simp only [List.nil_append, List.map_id', List.length_reverse]
  have hmem : ∀ x, x ∈ lsts m 1 (l.length - 1) ↔ x.length = m ∧ cutsB l.length 1 x = true := by
    intro x
    rw [lsts_mem, cutsB_one_len _ _ _ (Nat.le_refl _)]; rfl
  have hp : ((lsts m 1 (l.length - 1)).map (tn l.length)).Perm (lsts m 1 (l.length - 1)) := by
    refine (List.perm_ext_iff_of_nodup ?_ (lsts_nodup _ _ _)).2 fun x => ?_
    · refine List.Pairwise.map _ (fun a b hab e => hab ?_) (lsts_nodup _ _ _)
      have := congrArg (tn l.length) e
      rwa [tn_tn, tn_tn] at this
    · rw [List.mem_map]
      constructor
      · rintro ⟨y, hy, rfl⟩
        obtain ⟨h1, h2⟩ := (hmem y).1 hy
        exact (hmem _).2 ⟨by simpa [tn] using h1, tn_cuts _ _ h2⟩
      · intro hx
        obtain ⟨h1, h2⟩ := (hmem x).1 hx
        exact ⟨tn l.length x, (hmem _).2 ⟨by simpa [tn] using h1, tn_cuts _ _ h2⟩, tn_tn _ _⟩
  rw [← hp.countP_eq, List.countP_map]
  refine List.countP_congr fun x hx => ?_
  simp only [Function.comp]
  rw [tn_fair l x ((hmem x).1 hx).2]

/-! ### Renamed -/
def rn (k : Nat) (c : UInt8) : UInt8 := UInt8.ofNat (97 + (c.toNat - 97 + k) % 4)
theorem rn_nat (k : Nat) (c : UInt8) : (rn k c).toNat = 97 + (c.toNat - 97 + k) % 4 := by
  unfold rn; rw [UInt8.toNat_ofNat']; omega
theorem rn_ok (k : Nat) (l : List UInt8) : (l.map (rn k)).all okb = true := by
  rw [List.all_eq_true]; intro x hx
  obtain ⟨c, _, rfl⟩ := List.mem_map.1 hx
  rw [okb_iff, rn_nat]; omega
theorem rn_cn (k : Nat) (l : List UInt8) (hok : l.all okb = true) (j : Nat) (hj : j < 4) : cn (l.map (rn k)) ((j + k) % 4) = cn l j := by
  induction l with
  | nil => rfl
  | cons c r ih =>
    simp only [List.all_cons, Bool.and_eq_true] at hok
    have hc := (okb_iff c).1 hok.1
    rw [List.map_cons, cn_cons, cn_cons, ih hok.2, rn_nat]
    congr 1
    by_cases h : c.toNat = 97 + j
    · rw [if_pos h, if_pos (by omega)]
    · rw [if_neg h, if_neg (by omega)]
theorem all4 (k : Nat) (p : Nat → Prop) (h : ∀ j, j < 4 → p ((j + k) % 4)) : ∀ j, j < 4 → p j := by
  intro j hj
  have := h ((j + (4 - k % 4)) % 4) (by omega)
  rwa [show ((j + (4 - k % 4)) % 4 + k) % 4 = j by omega] at this
theorem same_iff (a b : List UInt8) : sameB a b = true ↔ ∀ j, j < 4 → cn a j = cn b j := by
  simp only [sameB, Bool.and_eq_true, beq_iff_eq]
  constructor
  · intro h j hj
    rcases (show j = 0 ∨ j = 1 ∨ j = 2 ∨ j = 3 by omega) with rfl | rfl | rfl | rfl
    · exact h.1.1.1
    · exact h.1.1.2
    · exact h.1.2
    · exact h.2
  · intro h
    exact ⟨⟨⟨h 0 (by omega), h 1 (by omega)⟩, h 2 (by omega)⟩, h 3 (by omega)⟩
theorem same_rn (k : Nat) (a b : List UInt8) (ha : a.all okb = true) (hb : b.all okb = true) : sameB (a.map (rn k)) (b.map (rn k)) = sameB a b := by
  rw [Bool.eq_iff_iff, same_iff, same_iff]
  constructor
  · intro h j hj
    have := h ((j + k) % 4) (by omega)
    rwa [rn_cn k a ha j hj, rn_cn k b hb j hj] at this
  · intro h
    refine all4 k _ fun j hj => ?_
    rw [rn_cn k a ha j hj, rn_cn k b hb j hj]
    exact h j hj
theorem share_map (f : UInt8 → UInt8) (l : List UInt8) : ∀ (L : List Int) (e : Nat), shareGo (l.map f) e L = ((shareGo l e L).1.map f, (shareGo l e L).2.map f) := by
  intro L
  induction L with
  | nil => intro e; simp [shareGo, List.map_drop]
  | cons c r ih => intro e; simp [shareGo, ih, List.map_drop, List.map_take]
theorem share_ok (l : List UInt8) (hok : l.all okb = true) (L : List Int) (e : Nat) : (shareGo l e L).1.all okb = true ∧ (shareGo l e L).2.all okb = true := by
  have := shLoop_all l hok L 0 e [] [] rfl rfl
  rw [(shLoop_share _ _ _ _ _).1] at this
  simpa using this
theorem fair_rn (k : Nat) (l : List UInt8) (hok : l.all okb = true) (L : List Int) : fairB (l.map (rn k)) L = fairB l L := by
  unfold fairB
  rw [share_map]
  exact same_rn k _ _ (share_ok l hok L 0).1 (share_ok l hok L 0).2
theorem ring_rn (k : Nat) (l : List UInt8) (hok : l.all okb = true) (L : List Int) : fairRingB (l.map (rn k)) L = fairRingB l L := by
  rw [← fairRingP_eq _ hok, ← fairRingP_eq _ (rn_ok k l)]
  unfold fairRingP
  have e : openL (l.map (rn k)) L = (openL l L).map (rn k) := by cases L <;> simp [openL, List.map_drop, List.map_take]
  rw [e]
  refine fair_rn k _ ?_ _
  cases L with
  | nil => exact hok
  | cons c r =>
    rw [List.all_eq_true] at hok ⊢
    intro x hx
    simp only [openL] at hx
    rcases List.mem_append.1 hx with hx | hx
    · exact hok x (List.mem_of_mem_drop hx)
    · exact hok x (List.mem_of_mem_take hx)
theorem even_rn (k : Nat) (l : List UInt8) (h : evenChainB l = true) : evenChainB (l.map (rn k)) = true := by
  obtain ⟨hok, hev, hl⟩ := even_facts h
  have he : ∀ j, j < 4 → cn (l.map (rn k)) j % 2 = 0 := by
    refine all4 k _ fun j hj => ?_
    rw [rn_cn k l hok j hj]
    simp only [evenB, Bool.and_eq_true, beq_iff_eq] at hev
    rcases (show j = 0 ∨ j = 1 ∨ j = 2 ∨ j = 3 by omega) with rfl | rfl | rfl | rfl <;> omega
  have h0 := he 0 (by omega)
  have h1 := he 1 (by omega)
  have h2 := he 2 (by omega)
  have h3 := he 3 (by omega)
  rw [evenChainB, chainB, rn_ok, List.length_map, decide_eq_true hl]
  simp [evenB, h0, h1, h2, h3]
theorem kinds_rn (k : Nat) (l : List UInt8) (hok : l.all okb = true) : kindsN (l.map (rn k)) = kindsN l := by
  have h := rn_cn k l hok
  have h0 := h 0 (by omega)
  have h1 := h 1 (by omega)
  have h2 := h 2 (by omega)
  have h3 := h 3 (by omega)
  unfold kindsN
  rcases (show k % 4 = 0 ∨ k % 4 = 1 ∨ k % 4 = 2 ∨ k % 4 = 3 by omega) with e | e | e | e
  · rw [show (0 + k) % 4 = 0 by omega] at h0; rw [show (1 + k) % 4 = 1 by omega] at h1; rw [show (2 + k) % 4 = 2 by omega] at h2; rw [show (3 + k) % 4 = 3 by omega] at h3; omega
  · rw [show (0 + k) % 4 = 1 by omega] at h0; rw [show (1 + k) % 4 = 2 by omega] at h1; rw [show (2 + k) % 4 = 3 by omega] at h2; rw [show (3 + k) % 4 = 0 by omega] at h3; omega
  · rw [show (0 + k) % 4 = 2 by omega] at h0; rw [show (1 + k) % 4 = 3 by omega] at h1; rw [show (2 + k) % 4 = 0 by omega] at h2; rw [show (3 + k) % 4 = 1 by omega] at h3; omega
  · rw [show (0 + k) % 4 = 3 by omega] at h0; rw [show (1 + k) % 4 = 0 by omega] at h1; rw [show (2 + k) % 4 = 1 by omega] at h2; rw [show (3 + k) % 4 = 2 by omega] at h3; omega
theorem first_rn (k : Nat) (ring : Bool) (l : List UInt8) (hok : l.all okb = true) (m : Nat) : firstB ring (l.map (rn k)) m = firstB ring l m := by
  unfold firstB
  rw [List.length_map]
  congr 1
  funext x
  unfold testB
  cases ring
  · exact fair_rn k l hok x
  · exact ring_rn k l hok x
theorem least_rn (k : Nat) (l : List UInt8) (h : evenChainB l = true) : leastC (l.map (rn k)) = leastC l := by
  have hok := (even_facts h).1
  rw [leastC, leastC, if_pos h, if_pos (even_rn k l h), kinds_rn k l hok, show firstB false (l.map (rn k)) = firstB false l from funext (first_rn k false l hok)]
theorem ringC_rn (k : Nat) (l : List UInt8) (h : evenChainB l = true) : ringC (l.map (rn k)) = ringC l := by
  have hok := (even_facts h).1
  rw [ringC, ringC, if_pos h, if_pos (even_rn k l h), ringT, ringT, show firstB true (l.map (rn k)) = firstB true l from funext (first_rn k true l hok)]
end Go.Proofs.Ythelnggbcgjbcaa
