/-
  Walks: the first part of n numbers whose sum is a multiple of n.
-/
import Derived.Test.YtkmpdcckgibkhaaGreatVj
import Derived.Test.YtkmpdcckgibkhaaGreatEgz
namespace Go.Proofs.YtkmpdcckgibkhaaGreat
open Go.RowKit Go.ChangeMaps

theorem perm_sub : ∀ (l s r : List Int), l.Perm (s ++ r) → ∃ T : List Int, T.Perm s ∧ T.Sublist l := by
  intro l
  induction l with
  | nil =>
    intro s r h
    have h1 := h.length_eq
    have : s = [] := List.eq_nil_of_length_eq_zero (by simp at h1; omega)
    subst this
    exact ⟨[], List.Perm.refl _, List.Sublist.refl _⟩
  | cons x l ih =>
    intro s r h
    have hx : x ∈ s ++ r := h.subset List.mem_cons_self
    rcases List.mem_append.1 hx with hx | hx
    · have h1 := List.perm_cons_erase hx
      have h2 : (x :: l).Perm (x :: (s.erase x ++ r)) := h.trans (h1.append_right r)
      obtain ⟨T, t1, t2⟩ := ih _ _ h2.cons_inv
      exact ⟨x :: T, (t1.cons x).trans h1.symm, t2.cons_cons x⟩
    · have h1 := List.perm_cons_erase hx
      have h2 : (x :: l).Perm (x :: (s ++ r.erase x)) := (h.trans (h1.append_left s)).trans List.perm_middle
      obtain ⟨T, t1, t2⟩ := ih _ _ h2.cons_inv
      exact ⟨T, t1, t2.cons x⟩
theorem perm_sum {l m : List Int} (h : l.Perm m) : l.sum = m.sum := by
  induction h with
  | nil => rfl
  | cons x _ ih => simp [ih]
  | swap x y l => simp; omega
  | trans _ _ h1 h2 => exact h1.trans h2
theorem rch_deal (N : Nat) (h2 : 2 ≤ N) (h20 : N ≤ 20) (L : List Int) (hl : L.length = 2 * N - 1) : Rch (N : Int) L N 0 := by
  obtain ⟨s, r, h1, h3, h4⟩ := deals_small N h2 h20 Int id L (by omega)
  obtain ⟨T, t1, t2⟩ := perm_sub L s r h1
  refine ⟨T, t2, by rw [t1.length_eq, h3], ?_⟩
  rw [perm_sum t1]
  rw [List.map_id] at h4
  exact Int.emod_eq_zero_of_dvd h4
theorem part_low {w w' : World} {n : Int} {L : List Int} {many : Nat} {s : Int} {v : Value} (h : PartP w n L many s v w') : Below w.heap.size w w' := by
  obtain ⟨P, p1, p2, p3, p4, p5⟩ := h
  exact p5
theorem mod_facts (x n y : Int) (hx : 0 ≤ x) (_hx2 : x ≤ 1000) (hn : 2 ≤ n) (hn2 : n ≤ 24) (hy : y = x % n) : Int.tmod x n = y ∧ wrap64 (y + n) = y + n ∧ IntKind.i64.wrap (y + n) = y + n ∧ Int.tmod (y + n) n = y ∧ 0 ≤ y ∧ y < n := by
  have h0 : 0 ≤ y := hy ▸ Int.emod_nonneg _ (by omega)
  have h1 : y < n := hy ▸ Int.emod_lt_of_pos _ (by omega)
  refine ⟨by rw [Int.tmod_eq_emod_of_nonneg hx, hy], by unfold wrap64; omega, by rw [IntKind.wrap_i64]; omega, ?_, h0, h1⟩
  rw [Int.tmod_eq_emod_of_nonneg (by omega), Int.add_emod_right]
  exact Int.emod_eq_of_lt h0 h1

set_option maxRecDepth 100000 in
set_option maxHeartbeats 4000000 in
theorem exactly13 (N : Nat) (l : List Int) (a : Option Addr) (c : Nat) (w : World) (hi : Ints w a l) (h2 : 2 ≤ N) (h20 : N ≤ 20) (hl : l.length = 2 * N - 1) (hL : ∀ x ∈ l, 0 ≤ x ∧ x ≤ 1000) :
    Calls Tryz.prog 13 #[.int .i64 N, .slice a l.length c] w fun e w' => ∃ v, e = .returned (.tuple #[v, .int .i64 0]) ∧ PartP w N (l.map (· % (N : Int))) N 0 v w' := by
  have C1 := hid (within30_yes (N : Int) 1 20 w (by omega) (by omega))
  have hw1 : wrap64 (2 * (N : Int)) = 2 * (N : Int) := by unfold wrap64; omega
  have hw2 : wrap64 (2 * (N : Int) - 1) = 2 * (N : Int) - 1 := by unfold wrap64; omega
  have hne : ((l.length : Int) != 2 * (N : Int) - 1) = false := by simp; omega
  have HI := hid hi
  have HL := hid hL
  have HLEN := hid hl
  clear hi hL hl
  go_enter Tryz.func13, Tryz.ntmps13
  go_wp2_with fail
  refine C1.out.mono ?_
  rintro e w1 ⟨rfl, rfl⟩
  go_wp2_with fail
  clear hw1 hw2 hne
  have H0 := hid (And.intro ((Below.refl _ w).alloc (Nat.le_refl _) (.cells #[.int .i64 N, .int .i64 1, .int .i64 1] 59)) (Blk.new w #[.int .i64 N, .int .i64 1, .int .i64 1] 59))
  generalize w.alloc (.cells #[.int .i64 N, .int .i64 1, .int .i64 1] 59) = W0 at *
  go_loopw [7, 26] (fun v iv W => ∃ i : Nat, i ≤ l.length ∧ iv = .int .i64 i ∧ Hid (Below w.heap.size w W ∧ Blk W w.heap.size #[.int .i64 N, .int .i64 1, .int .i64 1] 59 ∧ W.ownsRow (w.heap.size + 1) 57 2 v i (elF ((l.map (· % (N : Int))).take i)) ∧ w.heap.size < W.heap.size)) (fun _ iv _ => l.length - (intOf iv).toNat)
  case atStart => exact ⟨0, Nat.zero_le _, rfl, H0.out.1, H0.out.2, ⟨rfl, .inl ⟨rfl, rfl⟩⟩, H0.out.2.lt⟩
  case round =>
    obtain ⟨i, hi, rfl, H⟩ := hrel
    by_cases hlt : i < l.length
    · have di : decide ((i : Int) < (l.length : Int)) = true := by simpa using hlt
      obtain ⟨x, hx, -⟩ := list_drop_cons l i hlt
      have hxb := HL.out x (List.mem_of_getElem? hx)
      obtain ⟨g, o, rfl, hg, hc⟩ := HI.out.at (by omega)
      have q1 := (H.out.1.cell (p := ⟨g, o + i, none⟩) hg).trans (hc i x hx)
      obtain ⟨y, hy⟩ : ∃ y, y = x % (N : Int) := ⟨_, rfl⟩
      have hmf := mod_facts x N y hxb.1 hxb.2 (by omega) (by omega) hy
      have HX := hid (show (l.map (· % (N : Int)))[i]? = some y by rw [List.getElem?_map, hx, hy]; rfl)
      have hN0 : ¬ (N : Int) = 0 := by omega
      have hlen := HLEN.out
      have hi60 : i + 1 ≤ 60 := by omega
      have b3 := Blk.new wr #[.int .i64 y, .int .i64 0] 57
      obtain ⟨x0, x1, -, -⟩ := b3.two
      have hB4 := H.out.1.alloc H.out.1.size (.cells #[.int .i64 y, .int .i64 0] 57)
      have O4 := H.out.2.2.1.alloc (.cells #[.int .i64 y, .int .i64 0] 57)
      have G4 := H.out.2.1.alloc (.cells #[.int .i64 y, .int .i64 0] 57)
      have H4 := hid (And.intro hB4 (And.intro O4 (And.intro G4 (cells_el wr y))))
      have e2 : w.heap.size + 1 ≤ (wr.alloc (.cells #[.int .i64 y, .int .i64 0] 57)).heap.size := by have := H.out.2.2.2; simp; omega
      obtain ⟨m1, m2, m3, m4, m5, m6⟩ := hmf
      have hwl := H.out.2.2.2
      clear hc hx hxb hy hB4 O4 G4 b3 hlen
      go_wp2_with (at_builtin; go_must (refine wpList_appN _ rfl (.tmp 30) (.tmp 39) 60 rfl (w.heap.size + 1) 57 (.agg #[.int .i64 0, .int .i64 0]) 2 16 Tryz.underlying60 info57 rfl (by decide) _ i _ rfl H4.out.2.1 ⟨wr.heap.size, 0, none⟩ 1 1 [.int .i64 y, .int .i64 0] rfl rfl H4.out.2.2.2 (by simp [Value.oneCell']) (Nat.le_trans hi60 (by decide)) (by decide) e2 (by decide) ?_))
      intro v' w6 hown6 hgrow6 _
      have hlt4 := H4.out.2.1.lt
      have HN := hid (show Below w.heap.size w w6 ∧ Blk w6 w.heap.size #[.int .i64 N, .int .i64 1, .int .i64 1] 59 ∧ w6.ownsRow (w.heap.size + 1) 57 2 v' (i + 1) (elF ((l.map (· % (N : Int))).take (i + 1))) ∧ w.heap.size < w6.heap.size from
        ⟨H4.out.1.grown hgrow6 H4.out.1.size (fun k hk => by have := (hlt4 k hk).1; omega), (hgrow6.block _ H4.out.2.2.1.lt (fun e => by have := (hlt4 _ e.symm).1; omega)).trans H4.out.2.2.1,
          by rw [List.take_add_one, HX.out]; show w6.ownsRow _ _ _ _ _ (elF ((l.map (· % (N : Int))).take i ++ [y])); rw [elF_snoc]; exact hown6, Nat.lt_of_lt_of_le (by omega) hgrow6.size⟩)
      clear hown6 hgrow6 hlt4 x0 x1 m1 m2 m3 m4
      go_wp2_with fail
      exact ⟨⟨i + 1, by omega, by go_num, HN⟩, by simp [intOf]; omega⟩
    · have hie : i = l.length := by omega
      subst hie
      have di : decide ((l.length : Int) < (l.length : Int)) = false := by simp
      obtain ⟨L, hLL⟩ : ∃ L, L = l.map (· % (N : Int)) := ⟨_, rfl⟩
      have hll : L.length = l.length := by rw [hLL, List.length_map]
      rw [← hLL] at H ⊢
      have hE := els_own (w := wr) (base := w.heap.size + 1) (v := u7) (L := L) (by have := H.out.2.2.1; rw [← hll, List.take_length] at this; exact this)
      have hL0 : ∀ x ∈ L, 0 ≤ x ∧ x < (N : Int) := by
        intro x hx
        rw [hLL] at hx
        obtain ⟨y, -, rfl⟩ := List.mem_map.1 hx
        exact ⟨Int.emod_nonneg _ (by omega), Int.emod_lt_of_pos _ (by omega)⟩
      have hlen := HLEN.out
      have hR := hid (rch_deal N h2 h20 L (by omega))
      have HE := hid (And.intro hE (And.intro H.out.1 H.out.2.1))
      have CR := hid (reached32 N u7 L wr.drew hE (by omega) (by omega) (by omega) hL0)
      rw [show grpV N = .agg #[.int .i64 N, .int .i64 1, .int .i64 1] from rfl] at CR
      have HL0 := hid hL0
      have hL60 : L.length ≤ 60 := by omega
      have S7 := show (wr.drew.cell? ⟨w.heap.size, 0, none⟩ = some (.int .i64 N) ∧ wr.drew.cell? ⟨w.heap.size, 1, none⟩ = some (.int .i64 1) ∧ wr.drew.cell? ⟨w.heap.size, 2, none⟩ = some (.int .i64 1)) from ⟨H.out.2.1.drew.cell 0, H.out.2.1.drew.cell 1, H.out.2.1.drew.cell 2⟩
      have AF := hid (show ∀ w8, Below wr.drew.heap.size wr.drew w8 → (w8.cell? ⟨w.heap.size, 0, none⟩ = some (.int .i64 N) ∧ w8.cell? ⟨w.heap.size, 1, none⟩ = some (.int .i64 1) ∧ w8.cell? ⟨w.heap.size, 2, none⟩ = some (.int .i64 1)) ∧ Below w.heap.size w w8 ∧ ∀ w9, Below w8.heap.size w8 w9 → (w9.cell? ⟨w.heap.size, 0, none⟩ = some (.int .i64 N) ∧ w9.cell? ⟨w.heap.size, 1, none⟩ = some (.int .i64 1) ∧ w9.cell? ⟨w.heap.size, 2, none⟩ = some (.int .i64 1)) ∧ Below w.heap.size w w9 from fun w8 hb8 => by
        have k8 := HE.out.2.2.drew.below hb8 HE.out.2.2.lt
        have B8 := HE.out.2.1.drew.trans (hb8.mono HE.out.2.1.size)
        refine ⟨⟨k8.cell 0, k8.cell 1, k8.cell 2⟩, B8, fun w9 hb9 => ?_⟩
        have k9 := k8.below hb9 k8.lt
        exact ⟨⟨k9.cell 0, k9.cell 1, k9.cell 2⟩, B8.trans (hb9.mono B8.size)⟩)
      have CPF := hid (show ∀ ro f w8, Blk w8 ro (rowW f (L.length + 1)) 113 → Maps N L f 0 w8 wr.drew.heap.size → Below wr.drew.heap.size wr.drew w8 → Calls Tryz.prog 31 #[.agg #[.int .i64 N, .int .i64 1, .int .i64 1], u7, .slice (some ⟨ro, 0, none⟩) (L.length + 1) (L.length + 1), .agg #[.int .i64 N, .int .i64 0, .int .i64 0]] w8 fun e w' => ∃ v, e = .returned v ∧ PartP w8 N L N 0 v w' from fun ro f w8 hbk hmp hb8 =>
        part31 N u7 L ro f wr.drew.heap.size N 0 w8 (ElsAt.below (w := wr.drew) HE.out.1 hb8 (Nat.le_refl _)) hbk hmp hR.out hL60 (by omega) (by omega) HL0.out)
      have HLL := hid hLL
      clear hE hlen hL0 hLL hll
      go_wp2_with fail
      go_region_held3 (fun W => W.cell? ⟨w.heap.size, 0, none⟩ = some (.int .i64 N) ∧ W.cell? ⟨w.heap.size, 1, none⟩ = some (.int .i64 1) ∧ W.cell? ⟨w.heap.size, 2, none⟩ = some (.int .i64 1)) (first | exact S7 | exact S8 | exact S9 | go_keep) (first | (go_at_call 32; refine CR.out.mono ?_; rintro e w8 ⟨ro, f, rfl, hro, hbk, hmp, hb8⟩; have S8 := (AF.out w8 hb8).1; have CP := hid (CPF.out ro f w8 hbk hmp hb8); have B8 := hid (AF.out w8 hb8); clear hbk hmp hb8) | (go_at_call 31; refine CP.out.mono ?_; rintro e w9 ⟨v9, rfl, hp9⟩; have S9 := (B8.out.2.2 w9 (part_low hp9)).1; have HP9 := hid (hp9.up B8.out.2.1); clear hp9))
      go_wp2_with fail
      go_ret2
      exact ⟨v9, rfl, by rw [← HLL.out]; exact HP9.out⟩

end Go.Proofs.YtkmpdcckgibkhaaGreat
