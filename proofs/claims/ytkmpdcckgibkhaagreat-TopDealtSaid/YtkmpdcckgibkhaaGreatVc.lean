/-
  Walks: the elements of a list.
-/
import Derived.Test.YtkmpdcckgibkhaaGreatVb
import Derived.Test.YtkmpdcckgibkhaaGreatSM
namespace Go.Proofs.YtkmpdcckgibkhaaGreat
open Go.RowKit

theorem info57 : (Tryz.prog.info? 57).map (fun i => (i.zero, i.size, i.bytes)) = some (some (.agg #[.int .i64 0, .int .i64 0]), 2, 16) := by kernel_rfl
/-- The cells of a list of elements. -/
def elF (L : List Int) : List Value := L.flatMap fun x => [.int .i64 x, .int .i64 0]
theorem elF_len (L : List Int) : (elF L).length = L.length * 2 := by
  induction L with
  | nil => rfl
  | cons x L ih => simp only [elF, List.flatMap_cons, List.length_append, List.length_cons] at *; simp at *; omega
theorem elF_snoc (L : List Int) (x : Int) : elF (L ++ [x]) = elF L ++ [.int .i64 x, .int .i64 0] := by simp [elF]
theorem elF_at (L : List Int) (i : Nat) (x : Int) (h : L[i]? = some x) : (elF L)[i * 2]? = some (.int .i64 x) ∧ (elF L)[i * 2 + 1]? = some (.int .i64 0) := by
  induction L generalizing i with
  | nil => simp at h
  | cons y L ih =>
    cases i with
    | zero =>
      simp at h
      subst h
      exact ⟨rfl, rfl⟩
    | succ i =>
      have := ih i (by simpa using h)
      rw [show (i + 1) * 2 = i * 2 + 1 + 1 by omega, show i * 2 + 1 + 1 + 1 = (i * 2 + 1) + 1 + 1 by omega]
      exact this
/-- A slice of elements that can be read. -/
def ElsAt (w : World) (v : Value) (L : List Int) : Prop := ∃ a c, v = .slice a L.length c ∧ Vals w a (elF L) ∧ L.length ≤ c ∧ (a = none → c = 0)
theorem ElsAt.below {w w' : World} {v : Value} {L : List Int} {B : Nat} (h : ElsAt w v L) (hb : Below B w w') (hB : w.heap.size ≤ B) : ElsAt w' v L := by
  obtain ⟨a, c, h1, h2, h3⟩ := h
  exact ⟨a, c, h1, h2.below hb hB, h3⟩
theorem els_own {w : World} {base : Nat} {v : Value} {L : List Int} (h : w.ownsRow base 57 2 v L.length (elF L)) : ElsAt w v L := by
  rcases h.2 with ⟨hv, hn⟩ | ⟨g, cap, cur, hv, _, hg, hc, _, _, ht⟩
  · have : L = [] := List.eq_nil_of_length_eq_zero hn
    subst this
    exact ⟨none, 0, hv, .inl rfl, Nat.le_refl _, fun _ => rfl⟩
  · refine ⟨some ⟨g, 0, none⟩, cap, hv, .inr ⟨g, 0, rfl, lt_of_block hg, fun i x hx => ?_⟩, hc, fun h => by cases h⟩
    rw [Nat.zero_add, cell_of_row w g i cur 57 (0, 0) hg]
    rw [← ht, List.getElem?_take] at hx
    split at hx
    · simpa using hx
    · cases hx
theorem cells_el (w : World) (x : Int) : ∀ j u, ([.int .i64 x, .int .i64 0] : List Value)[j]? = some u → (w.alloc (.cells #[.int .i64 x, .int .i64 0] 57)).cell? ((⟨w.heap.size, 0, none⟩ : Addr).add j) = some u := by
  intro j u hu
  have h := (Blk.new w #[.int .i64 x, .int .i64 0] 57).cell j
  rw [show (⟨w.heap.size, 0, none⟩ : Addr).add j = ⟨w.heap.size, j, none⟩ by unfold Addr.add; split <;> simp_all]
  rw [h]
  simpa using hu

set_option maxRecDepth 100000 in
set_option maxHeartbeats 4000000 in
theorem elements34 (n : Int) (a : Option Addr) (c : Nat) (L : List Int) (w : World) (hr : RowsAt w a (L.map fun x => [x])) (hl : L.length ≤ 60) (hn : 2 ≤ n) (hn2 : n ≤ 24) (hL : ∀ x ∈ L, 0 ≤ x ∧ x < n) :
    Calls Tryz.prog 34 #[grpV n, .slice a L.length c] w fun e w' => ∃ v, e = .returned (.tuple #[v, .bool true]) ∧ ElsAt w' v L ∧ Below w.heap.size w w' := by
  have hb := (Below.refl _ w).alloc (Nat.le_refl _) (.cells #[.int .i64 n, .int .i64 1, .int .i64 1] 59)
  have bg := Blk.new w #[.int .i64 n, .int .i64 1, .int .i64 1] 59
  have HR := hid hr
  have HL := hid hL
  have HG := hid (show grpV n = .agg #[.int .i64 n, .int .i64 1, .int .i64 1] from rfl)
  have hlI : (L.length : Int) ≤ 60 := by omega
  rw [HG.out]
  clear hr hL
  go_enter Tryz.func34, Tryz.ntmps34
  go_wp2_with fail
  have H0 := hid (And.intro hb bg)
  clear hb bg
  generalize w.alloc (.cells #[.int .i64 n, .int .i64 1, .int .i64 1] 59) = W at *
  go_loopw [6, 13] (fun v iv W => ∃ i : Nat, i ≤ L.length ∧ iv = .int .i64 i ∧ Hid (Below w.heap.size w W ∧ Blk W w.heap.size #[.int .i64 n, .int .i64 1, .int .i64 1] 59 ∧ W.ownsRow (w.heap.size + 1) 57 2 v i (elF (L.take i)) ∧ w.heap.size < W.heap.size)) (fun _ iv _ => L.length - (intOf iv).toNat)
  case atStart => exact ⟨0, by omega, rfl, H0.out.1, H0.out.2, ⟨rfl, .inl ⟨rfl, rfl⟩⟩, H0.out.2.lt⟩
  case round =>
    obtain ⟨i, hi, rfl, H⟩ := hrel
    by_cases hlt : i < L.length
    · have di : decide ((i : Int) < (L.length : Int)) = true := by simpa using hlt
      obtain ⟨x, hx, -⟩ := list_drop_cons L i hlt
      have hxb := HL.out x (List.mem_of_getElem? hx)
      obtain ⟨g, o, b, cr, rfl, hg, hcell, hri, -, -⟩ := HR.out.at i [x] (by rw [List.getElem?_map, hx]; rfl)
      have q1 := (H.out.1.cell (p := ⟨g, o + i, none⟩) hg).trans hcell
      have g0 := H.out.2.1.cell 0
      have g1 := H.out.2.1.cell 1
      have g2 := H.out.2.1.cell 2
      have EL := hid (element64 n x b cr wr (hri.below H.out.1 (Nat.le_refl _)) hn hn2 hxb.1 hxb.2)
      rw [HG.out] at EL
      have HX := hid hx
      clear hcell hri hx
      go_wp2_with fail
      refine EL.out.mono ?_
      rintro e w2 ⟨rfl, hb2⟩
      have hB2 := H.out.1.trans (hb2.mono H.out.1.size)
      have G2 := H.out.2.1.below hb2 H.out.2.2.2
      have O2 := ownsRow_low H.out.2.2.1 hb2 (Nat.le_refl _)
      have hs2 : w.heap.size < w2.heap.size := Nat.lt_of_lt_of_le H.out.2.2.2 hb2.size
      have b3 := Blk.new w2 #[.int .i64 x, .int .i64 0] 57
      obtain ⟨x0, x1, -, -⟩ := b3.two
      have hB4 := (hB2.alloc hB2.size (.cells #[.int .i64 x, .int .i64 0] 57)).alloc (by have := hB2.size; simp; omega) (.cells #[.int .i64 x, .int .i64 0] 57)
      have O4 := (O2.alloc (.cells #[.int .i64 x, .int .i64 0] 57)).alloc (.cells #[.int .i64 x, .int .i64 0] 57)
      have G4 := (G2.alloc (.cells #[.int .i64 x, .int .i64 0] 57)).alloc (.cells #[.int .i64 x, .int .i64 0] 57)
      have C4 := cells_el (w2.alloc (.cells #[.int .i64 x, .int .i64 0] 57)) x
      rw [show (w2.alloc (.cells #[.int .i64 x, .int .i64 0] 57)).heap.size = w2.heap.size + 1 by simp] at C4
      have H4 := hid (And.intro hB4 (And.intro O4 (And.intro G4 C4)))
      clear hB2 G2 O2 b3 hB4 O4 G4 C4 hb2 g0 g1 g2 q1
      have e1 : i + 1 ≤ 1000000000 := by omega
      have e2 : w.heap.size + 1 ≤ ((w2.alloc (.cells #[.int .i64 x, .int .i64 0] 57)).alloc (.cells #[.int .i64 x, .int .i64 0] 57)).heap.size := by simp; omega
      rw [show elV x = .agg #[.int .i64 x, .int .i64 0] from rfl]
      go_wp2_with (at_builtin; go_must (refine wpList_appN _ rfl (.tmp 30) (.tmp 32) 60 rfl (w.heap.size + 1) 57 (.agg #[.int .i64 0, .int .i64 0]) 2 16 Tryz.underlying60 info57 rfl (by decide) _ i _ rfl H4.out.2.1 ⟨w2.heap.size + 1, 0, none⟩ 1 1 [.int .i64 x, .int .i64 0] rfl rfl H4.out.2.2.2 (by simp [Value.oneCell']) e1 (by decide) e2 (by decide) ?_))
      intro v' w6 hown6 hgrow6 _
      have hlt4 := H4.out.2.1.lt
      have HN := hid (show Below w.heap.size w w6 ∧ Blk w6 w.heap.size #[.int .i64 n, .int .i64 1, .int .i64 1] 59 ∧ w6.ownsRow (w.heap.size + 1) 57 2 v' (i + 1) (elF (L.take (i + 1))) ∧ w.heap.size < w6.heap.size from
        ⟨H4.out.1.grown hgrow6 H4.out.1.size (fun k hk => by have := (hlt4 k hk).1; omega), (hgrow6.block _ H4.out.2.2.1.lt (fun e => by have := (hlt4 _ e.symm).1; omega)).trans H4.out.2.2.1,
          by rw [List.take_add_one, HX.out]; show w6.ownsRow _ _ _ _ _ (elF (L.take i ++ [x])); rw [elF_snoc]; exact hown6, Nat.lt_of_lt_of_le (by omega) hgrow6.size⟩)
      clear hown6 hgrow6 hlt4 x0 x1
      go_wp2_with fail
      exact ⟨⟨i + 1, by omega, by go_num, HN⟩, by simp [intOf]; omega⟩
    · have hie : i = L.length := by omega
      subst hie
      have hE := els_own (w := wr) (base := w.heap.size + 1) (v := u6) (L := L) (by have := H.out.2.2.1; rwa [List.take_length] at this)
      have HE := hid (And.intro hE H.out.1)
      clear hE
      go_wp2_with fail
      go_ret2
      exact ⟨_, rfl, HE.out⟩

end Go.Proofs.YtkmpdcckgibkhaaGreat
