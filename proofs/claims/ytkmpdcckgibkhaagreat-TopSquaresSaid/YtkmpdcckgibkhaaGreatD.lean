/-
  Walks: the table of an order.
-/
import Derived.Test.YtkmpdcckgibkhaaGreatC
namespace Go.Proofs.YtkmpdcckgibkhaaGreat
open Go.RowKit

/-- How many of the first j numbers behind place i are smaller than the one there. -/
def tabN (l : List Int) (j i : Nat) : Nat := ((List.range j).filter fun k => decide (i < k) && decide (l.getD k 0 < l.getD i 0)).length
theorem tabN_zero (l : List Int) (i : Nat) : tabN l 0 i = 0 := rfl
theorem tabN_le (l : List Int) (j i : Nat) : tabN l j i ≤ j := by
  have := List.length_filter_le (fun k => decide (i < k) && decide (l.getD k 0 < l.getD i 0)) (List.range j)
  simpa [tabN] using this
theorem tabN_succ (l : List Int) (j i : Nat) : tabN l (j + 1) i = tabN l j i + if i < j ∧ l.getD j 0 < l.getD i 0 then 1 else 0 := by
  unfold tabN
  rw [List.range_succ, List.filter_append, List.length_append]
  congr 1
  simp only [List.filter_cons, List.filter_nil]
  split <;> rename_i h <;> simp only [Bool.and_eq_true, decide_eq_true_eq] at h
  · rw [if_pos h]; rfl
  · rw [if_neg h]; rfl

def tabV (l : List Int) : Array Value := rowA (fun i => (tabN l l.length i : Int)) 12
/-- The numbers in the middle of a round: place m of the inner loop. -/
def tabM (l : List Int) (j m : Nat) (i : Nat) : Int := if i < m then (tabN l (j + 1) i : Int) else (tabN l j i : Int)
theorem tabM_zero (l : List Int) (j i : Nat) : tabM l j 0 i = (tabN l j i : Int) := by simp [tabM]
theorem tabM_end (l : List Int) (j i : Nat) : tabM l j j i = (tabN l (j + 1) i : Int) := by
  unfold tabM
  split
  · rfl
  · rw [tabN_succ, if_neg (by omega)]; simp
theorem tabM_hit (l : List Int) (j m i : Nat) (hm : m < j) (h : l.getD j 0 < l.getD m 0) : tabM l j (m + 1) i = if i = m then tabM l j m m + 1 else tabM l j m i := by
  unfold tabM
  by_cases e : i = m
  · subst e; rw [if_pos (by omega), if_pos rfl, if_neg (by omega), tabN_succ, if_pos ⟨hm, h⟩]; simp
  · rw [if_neg e]
    by_cases e2 : i < m
    · rw [if_pos (by omega), if_pos e2]
    · rw [if_neg (by omega), if_neg e2]
theorem tabM_miss (l : List Int) (j m i : Nat) (h : ¬ l.getD j 0 < l.getD m 0) : tabM l j (m + 1) i = tabM l j m i := by
  unfold tabM
  by_cases e : i = m
  · subst e; rw [if_pos (by omega), if_neg (by omega), tabN_succ, if_neg (by omega)]; simp
  · by_cases e2 : i < m
    · rw [if_pos (by omega), if_pos e2]
    · rw [if_neg (by omega), if_neg e2]

theorem Blk.cells12 {W : World} {b : Nat} {f : Nat → Int} {t : TypeId} (h : Blk W b (rowA f 12) t) : W.cell? ⟨b, 0, none⟩ = some (.int .i64 (f 0)) ∧ W.cell? ⟨b, 1, none⟩ = some (.int .i64 (f 1)) ∧ W.cell? ⟨b, 2, none⟩ = some (.int .i64 (f 2)) ∧ W.cell? ⟨b, 3, none⟩ = some (.int .i64 (f 3)) ∧ W.cell? ⟨b, 4, none⟩ = some (.int .i64 (f 4)) ∧ W.cell? ⟨b, 5, none⟩ = some (.int .i64 (f 5)) ∧ W.cell? ⟨b, 6, none⟩ = some (.int .i64 (f 6)) ∧ W.cell? ⟨b, 7, none⟩ = some (.int .i64 (f 7)) ∧ W.cell? ⟨b, 8, none⟩ = some (.int .i64 (f 8)) ∧ W.cell? ⟨b, 9, none⟩ = some (.int .i64 (f 9)) ∧ W.cell? ⟨b, 10, none⟩ = some (.int .i64 (f 10)) ∧ W.cell? ⟨b, 11, none⟩ = some (.int .i64 (f 11)) :=
  ⟨h.rowAt 0 (by omega), h.rowAt 1 (by omega), h.rowAt 2 (by omega), h.rowAt 3 (by omega), h.rowAt 4 (by omega), h.rowAt 5 (by omega), h.rowAt 6 (by omega), h.rowAt 7 (by omega), h.rowAt 8 (by omega), h.rowAt 9 (by omega), h.rowAt 10 (by omega), h.rowAt 11 (by omega)⟩
theorem Blk.free12 {W : World} {b : Nat} {f : Nat → Int} {t : TypeId} (h : Blk W b (rowA f 12) t) : W.frozen? ⟨b, 0, none⟩ = false ∧ W.frozen? ⟨b, 1, none⟩ = false ∧ W.frozen? ⟨b, 2, none⟩ = false ∧ W.frozen? ⟨b, 3, none⟩ = false ∧ W.frozen? ⟨b, 4, none⟩ = false ∧ W.frozen? ⟨b, 5, none⟩ = false ∧ W.frozen? ⟨b, 6, none⟩ = false ∧ W.frozen? ⟨b, 7, none⟩ = false ∧ W.frozen? ⟨b, 8, none⟩ = false ∧ W.frozen? ⟨b, 9, none⟩ = false ∧ W.frozen? ⟨b, 10, none⟩ = false ∧ W.frozen? ⟨b, 11, none⟩ = false :=
  ⟨h.free 0, h.free 1, h.free 2, h.free 3, h.free 4, h.free 5, h.free 6, h.free 7, h.free 8, h.free 9, h.free 10, h.free 11⟩
def setsN (W : World) (b : Nat) (g : Nat → Int) : Nat → World
  | 0 => W
  | k + 1 => (setsN W b g k).setCell ⟨b, k, none⟩ (.int .i64 (g k))
theorem Blk.setsN {W : World} {b n : Nat} {f g : Nat → Int} {t : TypeId} (h : Blk W b (rowA f n) t) : ∀ k, Blk (setsN W b g k) b (rowA (fun i => if i < k then g i else f i) n) t
  | 0 => by
    have e : rowA (fun i => if i < 0 then g i else f i) n = rowA f n := rowA_congr fun i _ => by rw [if_neg (by omega)]
    rw [e]; exact h
  | k + 1 => (h.setsN k).rowPut k (g k) fun i _ => by
    by_cases e : i = k
    · subst e; rw [if_pos (by omega), if_pos rfl]
    · rw [if_neg e]
      by_cases e2 : i < k
      · rw [if_pos (by omega), if_pos e2]
      · rw [if_neg (by omega), if_neg e2]
theorem Blk.setsAll {W : World} {b n : Nat} {f g : Nat → Int} {t : TypeId} (h : Blk W b (rowA f n) t) : Blk (Go.Proofs.YtkmpdcckgibkhaaGreat.setsN W b g n) b (rowA g n) t := by
  have := h.setsN (g := g) n
  rwa [rowA_congr (f := fun i => if i < n then g i else f i) (g := g) fun i hi => if_pos hi] at this
theorem setsN_below {B b : Nat} {w W : World} (g : Nat → Int) (h : Below B w W) (hb : B ≤ b) : ∀ k, Below B w (setsN W b g k)
  | 0 => h
  | k + 1 => (setsN_below g h hb k).setCell hb _

set_option maxHeartbeats 1000000 in
theorem table_any (a : Option Addr) (c : Nat) (l : List Int) (w : World) (hi : Ints w a l) (hl : l.length ≤ 12) (hc : l.length ≤ c) :
    Calls Tryz.prog 51 #[.slice a l.length c] w (RetB (.agg (tabV l)) w) := by
  have HR := hid hi
  clear hi
  have hz : (#[.int .i64 0, .int .i64 0, .int .i64 0, .int .i64 0, .int .i64 0, .int .i64 0, .int .i64 0, .int .i64 0, .int .i64 0, .int .i64 0, .int .i64 0, .int .i64 0] : Array Value) = rowA (fun i => tabM l 0 0 i) 12 := by
    rw [rowA_congr (f := fun i => tabM l 0 0 i) (g := fun _ => 0) fun i _ => by rw [tabM_zero]; rfl]; rfl
  have hb := ((Below.refl _ w).alloc (Nat.le_refl _) (.cells (rowA (fun i => tabM l 0 0 i) 12) 93)).alloc (by simp) (.cells (rowA (fun i => tabM l 0 0 i) 12) 93)
  have b1 : Blk ((w.alloc (.cells (rowA (fun i => tabM l 0 0 i) 12) 93)).alloc (.cells (rowA (fun i => tabM l 0 0 i) 12) 93)) w.heap.size (rowA (fun i => tabM l 0 0 i) 12) 93 := (Blk.new w _ _).alloc _
  have b2 : Blk ((w.alloc (.cells (rowA (fun i => tabM l 0 0 i) 12) 93)).alloc (.cells (rowA (fun i => tabM l 0 0 i) 12) 93)) (w.heap.size + 1) (rowA (fun i => tabM l 0 0 i) 12) 93 := Blk.mk' (by simp) rfl
  go_enter Tryz.func51, Tryz.ntmps51
  go_wp2
  have HZ := hid hz
  clear hz
  generalize (w.alloc (.cells (rowA (fun i => tabM l 0 0 i) 12) 93)).alloc (.cells (rowA (fun i => tabM l 0 0 i) 12) 93) = W0 at *
  have H0 := hid (show Below w.heap.size w W0 ∧ Blk W0 w.heap.size (rowA (fun i => tabM l 0 0 i) 12) 93 ∧ Blk W0 (w.heap.size + 1) (rowA (fun i => tabM l 0 0 i) 12) 93 from ⟨hb, b1, b2⟩)
  clear hb b1 b2
  go_loopw [10] (fun jv W => ∃ j : Nat, j ≤ l.length ∧ jv = .int .i64 j ∧ Hid (Below w.heap.size w W ∧ Blk W w.heap.size (rowA (fun i => tabM l 0 0 i) 12) 93 ∧ Blk W (w.heap.size + 1) (rowA (fun i => tabM l j 0 i) 12) 93)) (fun jv _ => l.length - (intOf jv).toNat)
  case atStart => exact ⟨0, by omega, rfl, H0⟩
  case round =>
    obtain ⟨j, hj, rfl, H⟩ := hrel
    by_cases hlt : j < l.length
    · obtain ⟨y, hx, -⟩ := list_drop_cons l j hlt
      obtain ⟨g, o, rfl, hg, hcell⟩ := HR.out.at (by omega)
      have q1 := (H.out.1.cell (p := ⟨g, o + j, none⟩) hg).trans (hcell j y hx)
      have d1 : decide ((j : Int) < (l.length : Int)) = true := by simpa using hlt
      have HX := hid (show l.getD j 0 = y by simp [hx])
      have HC := hid hcell
      clear hcell hx
      go_wp2
      go_loopw [19] (fun mv W => ∃ m : Nat, m ≤ j ∧ mv = .int .i64 m ∧ Hid (Below w.heap.size w W ∧ Blk W w.heap.size (rowA (fun i => tabM l 0 0 i) 12) 93 ∧ Blk W (w.heap.size + 1) (rowA (fun i => tabM l j m i) 12) 93)) (fun mv _ => j - (intOf mv).toNat)
      case atStart => exact ⟨0, by omega, rfl, H⟩
      case round =>
        obtain ⟨m, hm, rfl, H2⟩ := hrel
        by_cases hmt : m < j
        · have d2 : decide ((m : Int) < (j : Int)) = true := by simpa using hmt
          obtain ⟨z, hz, -⟩ := list_drop_cons l m (by omega)
          have q2 := (H2.out.1.cell (p := ⟨g, o + m, none⟩) hg).trans (HC.out m z hz)
          have HXZ := hid (show l.getD m 0 = z by simp [hz])
          have k1 := H2.out.2.2.rowAt m (by omega)
          have k2 := H2.out.2.2.free m
          have i1 : (0 : Int) ≤ (m : Int) := by omega
          have i2 : (m : Int) < 12 := by omega
          have tb : tabM l j m m ≤ 12 ∧ 0 ≤ tabM l j m m := by
            have := tabN_le l j m
            unfold tabM; rw [if_neg (by omega)]; omega
          by_cases hyz : y < z
          · have d3 : decide (y < z) = true := by simpa using hyz
            have HP := hid (H2.out.2.2.rowPut (g := fun i => tabM l j (m + 1) i) m (tabM l j m m + 1) fun i _ => by
              rw [tabM_hit l j m i hmt (by rw [HX.out, HXZ.out]; exact hyz)])
            have HB := hid (H2.out.1.setCell (show w.heap.size ≤ w.heap.size + 1 by omega) (.int .i64 (tabM l j m m + 1)) (p := ⟨w.heap.size + 1, m, none⟩))
            have HZ2 := hid (H2.out.2.1.other ⟨w.heap.size + 1, m, none⟩ (by simp) (.int .i64 (tabM l j m m + 1)))
            generalize tabM l j m m = tv at *
            go_wp2
            exact ⟨⟨m + 1, by omega, by go_num, hid ⟨HB.out, HZ2.out, HP.out⟩⟩, by simp [intOf]; omega⟩
          · have d3 : decide (y < z) = false := by simpa using hyz
            have HP : rowA (fun i => tabM l j m i) 12 = rowA (fun i => tabM l j (m + 1) i) 12 := rowA_congr fun i _ => (tabM_miss l j m i (by rw [HX.out, HXZ.out]; exact hyz)).symm
            have HP2 := hid (show Below w.heap.size w _ ∧ Blk _ w.heap.size _ 93 ∧ Blk _ (w.heap.size + 1) _ 93 from HP ▸ H2.out)
            clear k1 k2 tb HP
            go_wp2
            exact ⟨⟨m + 1, by omega, by go_num, HP2⟩, by simp [intOf]; omega⟩
        · have hme : m = j := by omega
          subst hme
          have HP : rowA (fun i => tabM l m m i) 12 = rowA (fun i => tabM l (m + 1) 0 i) 12 := rowA_congr fun i _ => by rw [tabM_end, tabM_zero]
          have HP2 := hid (show Below w.heap.size w _ ∧ Blk _ w.heap.size _ 93 ∧ Blk _ (w.heap.size + 1) _ 93 from HP ▸ H2.out)
          clear HP
          go_wp2
          exact ⟨⟨m + 1, by omega, by go_num, HP2⟩, by simp [intOf]; omega⟩
    · have hje : j = l.length := by omega
      subst hje
      have HT := hid (show rowA (fun i => tabM l l.length 0 i) 12 = tabV l from rowA_congr fun i _ => by rw [tabM_zero])
      obtain ⟨h1, h2, h3⟩ := H.out
      clear H
      have h4 := h2.setsAll (g := fun i => tabM l l.length 0 i)
      have h5 := setsN_below (fun i => tabM l l.length 0 i) h1 (Nat.le_refl w.heap.size) 12
      rw [HT.out] at h4
      obtain ⟨r0, r1, r2, r3, r4, r5, r6, r7, r8, r9, r10, r11⟩ := h3.cells12
      obtain ⟨y0, y1, y2, y3, y4, y5, y6, y7, y8, y9, y10, y11⟩ := h2.cells12
      obtain ⟨z0, z1, z2, z3, z4, z5, z6, z7, z8, z9, z10, z11⟩ := h2.free12
      have HF := hid (And.intro h4 h5)
      clear h1 h2 h3 h4 h5
      simp only [setsN] at HF
      generalize tabM l l.length 0 0 = x0 at *
      generalize tabM l l.length 0 1 = x1 at *
      generalize tabM l l.length 0 2 = x2 at *
      generalize tabM l l.length 0 3 = x3 at *
      generalize tabM l l.length 0 4 = x4 at *
      generalize tabM l l.length 0 5 = x5 at *
      generalize tabM l l.length 0 6 = x6 at *
      generalize tabM l l.length 0 7 = x7 at *
      generalize tabM l l.length 0 8 = x8 at *
      generalize tabM l l.length 0 9 = x9 at *
      generalize tabM l l.length 0 10 = x10 at *
      generalize tabM l l.length 0 11 = x11 at *
      go_wp2
      generalize ((((((((((((wr.setCell ⟨w.heap.size, 0, none⟩ (.int .i64 x0)).setCell ⟨w.heap.size, 1, none⟩ (.int .i64 x1)).setCell ⟨w.heap.size, 2, none⟩ (.int .i64 x2)).setCell ⟨w.heap.size, 3, none⟩ (.int .i64 x3)).setCell ⟨w.heap.size, 4, none⟩ (.int .i64 x4)).setCell ⟨w.heap.size, 5, none⟩ (.int .i64 x5)).setCell ⟨w.heap.size, 6, none⟩ (.int .i64 x6)).setCell ⟨w.heap.size, 7, none⟩ (.int .i64 x7)).setCell ⟨w.heap.size, 8, none⟩ (.int .i64 x8)).setCell ⟨w.heap.size, 9, none⟩ (.int .i64 x9)).setCell ⟨w.heap.size, 10, none⟩ (.int .i64 x10)).setCell ⟨w.heap.size, 11, none⟩ (.int .i64 x11)) = W2 at *
      obtain ⟨f1, f2⟩ := HF.out
      clear r0 y0 z0 r1 y1 z1 r2 y2 z2 r3 y3 z3 r4 y4 z4 r5 y5 z5 r6 y6 z6 r7 y7 z7 r8 y8 z8 r9 y9 z9 r10 y10 z10 r11 y11 z11 HF
      obtain ⟨r0, r1, r2, r3, r4, r5, r6, r7, r8, r9, r10, r11⟩ := Blk.cells12 (f := fun i => (tabN l l.length i : Int)) f1
      exact bodyPost_ret (v := .agg #[.int .i64 (tabN l l.length 0 : Int), .int .i64 (tabN l l.length 1 : Int), .int .i64 (tabN l l.length 2 : Int), .int .i64 (tabN l l.length 3 : Int), .int .i64 (tabN l l.length 4 : Int), .int .i64 (tabN l l.length 5 : Int), .int .i64 (tabN l l.length 6 : Int), .int .i64 (tabN l l.length 7 : Int), .int .i64 (tabN l l.length 8 : Int), .int .i64 (tabN l l.length 9 : Int), .int .i64 (tabN l l.length 10 : Int), .int .i64 (tabN l l.length 11 : Int)]) (by simp [results, Tryz.results51, go_sem, r0, r1, r2, r3, r4, r5, r6, r7, r8, r9, r10, r11]) rfl ⟨rfl, f2⟩

end Go.Proofs.YtkmpdcckgibkhaaGreat
