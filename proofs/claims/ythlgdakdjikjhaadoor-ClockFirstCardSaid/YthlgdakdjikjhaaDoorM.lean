/-
  Walks: the law's simple results.
-/
import Derived.Test.YthlgdakdjikjhaaDoorL
namespace Go.Proofs.YthlgdakdjikjhaaDoor
open Go.RowKit Go.ChangeMaps
attribute [local go_sem] Oper.semAt_some

def m0 : List (List Nat) := [[1, 2, 0], [0, 1, 0]]
def m1 : List (List Nat) := [[1, 0]]
theorem m0_ok : OkM m0 := ⟨by decide, by decide, by decide, by decide, by decide, by decide⟩
theorem m1_ok : OkM m1 := ⟨by decide, by decide, by decide, by decide, by decide, by decide⟩
theorem m0_first : (firstE m0 (allS m0) oneB).map (fun x => (x.word, lowN x.set)) = some ([98, 97, 97, 98], 0) := by decide +kernel
theorem m1_apart : apartL m1 = [0, 1] := by decide +kernel
theorem m1_min : minN m1 = 2 := by decide +kernel
theorem m0_reset : resetV (firstE m0 (allS m0) oneB) = .tuple #[.string ⟨#[98, 97, 97, 98]⟩, .int .i64 0, .int .i64 0] := by
  have h := m0_first
  cases hf : firstE m0 (allS m0) oneB with
  | none => rw [hf] at h; simp at h
  | some x =>
    rw [hf] at h
    simp only [Option.map_some, Option.some.injEq, Prod.mk.injEq] at h
    simp only [resetV, h.1, h.2]
    rfl
theorem rank_form (m : Nat) (q : Option Ent) : ∃ s : ByteArray, rankV m q = .tuple #[.int .i64 (m : Int), .string s, .int .i64 0] := by
  cases q with
  | none => exact ⟨_, rfl⟩
  | some x => exact ⟨_, rfl⟩
theorem ints_blk {w : World} {b : Nat} {cs : Array Value} {t : TypeId} {l : List Int} (h : Blk w b cs t) (hl : cs.toList = l.map (Value.int .i64)) : Ints w (some ⟨b, 0, none⟩) l :=
  .inr ⟨b, 0, rfl, h.lt, fun i u hu => by rw [Nat.zero_add, h.cell i, ← Array.getElem?_toList, hl]; exact hu⟩
theorem rows_two {w : World} {b1 b2 n1 n2 : Nat} {l1 l2 : List Int} (h1 : Ints w (some ⟨b1, 0, none⟩) l1) (h2 : Ints w (some ⟨b2, 0, none⟩) l2) (e1 : n1 = l1.length) (e2 : n2 = l2.length) :
    RowsAt (w.alloc (.cells #[.slice (some ⟨b1, 0, none⟩) n1 n1, .slice (some ⟨b2, 0, none⟩) n2 n2] 38)) (some ⟨w.heap.size, 0, none⟩) [l1, l2] := by
  subst e1 e2
  have hal : Below w.heap.size w (w.alloc (.cells #[.slice (some ⟨b1, 0, none⟩) l1.length l1.length, .slice (some ⟨b2, 0, none⟩) l2.length l2.length] 38)) := (Below.refl _ w).alloc (Nat.le_refl _) _
  refine ⟨_, vals_new w _ _ _ rfl, rfl, fun i r hr => ?_⟩
  match i with
  | 0 =>
    simp only [List.getElem?_cons_zero, Option.some.injEq] at hr
    subst hr
    exact ⟨_, _, rfl, h1.below hal (Nat.le_refl _), (fun h => by cases h), Nat.le_refl _⟩
  | 1 =>
    simp only [List.getElem?_cons_succ, List.getElem?_cons_zero, Option.some.injEq] at hr
    subst hr
    exact ⟨_, _, rfl, h2.below hal (Nat.le_refl _), (fun h => by cases h), Nat.le_refl _⟩
  | k + 2 => simp at hr
theorem rows_one {w : World} {b1 n1 : Nat} {l1 : List Int} (h1 : Ints w (some ⟨b1, 0, none⟩) l1) (e1 : n1 = l1.length) :
    RowsAt (w.alloc (.cells #[.slice (some ⟨b1, 0, none⟩) n1 n1] 38)) (some ⟨w.heap.size, 0, none⟩) [l1] := by
  subst e1
  have hal : Below w.heap.size w (w.alloc (.cells #[.slice (some ⟨b1, 0, none⟩) l1.length l1.length] 38)) := (Below.refl _ w).alloc (Nat.le_refl _) _
  refine ⟨_, vals_new w _ _ _ rfl, rfl, fun i r hr => ?_⟩
  match i with
  | 0 =>
    simp only [List.getElem?_cons_zero, Option.some.injEq] at hr
    subst hr
    exact ⟨_, _, rfl, h1.below hal (Nat.le_refl _), (fun h => by cases h), Nat.le_refl _⟩
  | k + 1 => simp at hr
/-- The literal of two rows of three, as the walk lays it. -/
theorem lit_two (w : World) (a b c d e f : Int) : RowsAt (((w.alloc (.cells #[.int .i64 a, .int .i64 b, .int .i64 c] 3)).alloc (.cells #[.int .i64 d, .int .i64 e, .int .i64 f] 3)).alloc (.cells #[.slice (some ⟨w.heap.size, 0, none⟩) 3 3, .slice (some ⟨w.heap.size + 1, 0, none⟩) 3 3] 38)) (some ⟨w.heap.size + 1 + 1, 0, none⟩) [[a, b, c], [d, e, f]] := by
  have h1 : Blk ((w.alloc (.cells #[.int .i64 a, .int .i64 b, .int .i64 c] 3)).alloc (.cells #[.int .i64 d, .int .i64 e, .int .i64 f] 3)) w.heap.size #[.int .i64 a, .int .i64 b, .int .i64 c] 3 := (Blk.new w _ _).alloc _
  have h2 : Blk ((w.alloc (.cells #[.int .i64 a, .int .i64 b, .int .i64 c] 3)).alloc (.cells #[.int .i64 d, .int .i64 e, .int .i64 f] 3)) (w.heap.size + 1) #[.int .i64 d, .int .i64 e, .int .i64 f] 3 := Blk.mk' (by simp) rfl
  have := rows_two (n1 := 3) (n2 := 3) (ints_blk (l := [a, b, c]) h1 rfl) (ints_blk (l := [d, e, f]) h2 rfl) rfl rfl
  simpa using this
theorem lit_one (w : World) (a b : Int) : RowsAt ((w.alloc (.cells #[.int .i64 a, .int .i64 b] 3)).alloc (.cells #[.slice (some ⟨w.heap.size, 0, none⟩) 2 2] 38)) (some ⟨w.heap.size + 1, 0, none⟩) [[a, b]] := by
  have := rows_one (n1 := 2) (ints_blk (l := [a, b]) (Blk.new w #[.int .i64 a, .int .i64 b] 3) rfl) rfl
  simpa using this

set_option maxRecDepth 20000 in
set_option maxHeartbeats 4000000 in
theorem awake_any (w : World) (hG : Glob w) : Calls Tryd.prog 17 #[] w fun e w' => e = .returned (.bool true) ∧ Below w.heap.size w w' := by
  have HG := hid hG
  have SL := hid (Slow_yes 3 w (by omega) (by omega))
  clear hG
  go_enter Tryd.func17, Tryd.ntmps17
  go_wp2_with fail
  refine SL.out.mono ?_
  rintro e w1 ⟨a1, c1, rfl, hr1, hb1⟩
  have HR1 := hid hr1
  have HB1 := hid hb1
  clear hr1 hb1
  go_wp2_with fail
  have b2 := ((HB1.out.alloc HB1.out.size (.cells #[.int .i64 1, .int .i64 2, .int .i64 0] 3)).alloc (Nat.le_trans HB1.out.size (by simp)) (.cells #[.int .i64 0, .int .i64 1, .int .i64 0] 3)).alloc (Nat.le_trans HB1.out.size (by simp; omega)) (.cells #[.slice (some ⟨w1.heap.size, 0, none⟩) 3 3, .slice (some ⟨w1.heap.size + 1, 0, none⟩) 3 3] 38)
  have RS := hid (Reset_yes (some ⟨w1.heap.size + 1 + 1, 0, none⟩) 2 m0 _ m0_ok (lit_two w1 1 2 0 0 1 0) (HG.out.next b2))
  rw [m0_reset] at RS
  have B2 := hid b2
  have BE1 := hid ((((Below.refl _ w1).alloc (Nat.le_refl _) (.cells #[.int .i64 1, .int .i64 2, .int .i64 0] 3)).alloc (by simp) (.cells #[.int .i64 0, .int .i64 1, .int .i64 0] 3)).alloc (by simp; omega) (.cells #[.slice (some ⟨w1.heap.size, 0, none⟩) 3 3, .slice (some ⟨w1.heap.size + 1, 0, none⟩) 3 3] 38))
  clear b2
  refine RS.out.mono ?_
  rintro e w2 ⟨rfl, hb2⟩
  have b3 := B2.out.trans (hb2.mono B2.out.size)
  have R2 := hid (HR1.out.below (BE1.out.trans (hb2.mono BE1.out.size)) (Nat.le_refl _))
  have B3 := hid b3
  clear hb2 b3 RS B2
  go_wp2_with fail
  have b4 := (B3.out.alloc B3.out.size (.cells #[.int .i64 1, .int .i64 0] 3)).alloc (Nat.le_trans B3.out.size (by simp)) (.cells #[.slice (some ⟨w2.heap.size, 0, none⟩) 2 2] 38)
  have AP := hid (Apart_yes (some ⟨w2.heap.size + 1, 0, none⟩) 1 m1 _ m1_ok (lit_one w2 1 0))
  rw [m1_apart] at AP
  have B4 := hid b4
  have BE2 := hid (((Below.refl _ w2).alloc (Nat.le_refl _) (.cells #[.int .i64 1, .int .i64 0] 3)).alloc (by simp) (.cells #[.slice (some ⟨w2.heap.size, 0, none⟩) 2 2] 38))
  clear b4
  refine AP.out.mono ?_
  rintro e w3 ⟨a3, c3, rfl, ho3, hb3⟩
  have V3 := hid (own_vals ho3.out).1
  have b5 := B4.out.trans (hb3.mono B4.out.size)
  have R3 := hid (R2.out.below (BE2.out.trans (hb3.mono BE2.out.size)) (Nat.le_refl _))
  have B5 := hid b5
  clear b5 hb3 ho3 AP B4
  go_wp2_with fail
  have b6 := (B5.out.alloc B5.out.size (.cells #[.int .i64 1, .int .i64 0] 3)).alloc (Nat.le_trans B5.out.size (by simp)) (.cells #[.slice (some ⟨w3.heap.size, 0, none⟩) 2 2] 38)
  have RK := hid (Rank_yes (some ⟨w3.heap.size + 1, 0, none⟩) 1 m1 _ m1_ok (lit_one w3 1 0))
  obtain ⟨sr, hsr⟩ := rank_form (minN m1) (firstE m1 (allS m1) (hasB (minN m1)))
  rw [hsr, m1_min] at RK
  have B6 := hid b6
  have BE3 := hid (((Below.refl _ w3).alloc (Nat.le_refl _) (.cells #[.int .i64 1, .int .i64 0] 3)).alloc (by simp) (.cells #[.slice (some ⟨w3.heap.size, 0, none⟩) 2 2] 38))
  clear b6 hsr
  refine RK.out.mono ?_
  rintro e w4 ⟨rfl, hb4⟩
  have b7 := B6.out.trans (hb4.mono B6.out.size)
  have B7 := hid b7
  have V4 := hid (V3.out.below (BE3.out.trans (hb4.mono BE3.out.size)) (Nat.le_refl _))
  have R4 := hid (R3.out.below (BE3.out.trans (hb4.mono BE3.out.size)) (Nat.le_refl _))
  clear b7 hb4 RK B6
  go_wp2_with fail
  have b8 := ((B7.out.alloc B7.out.size (.cells #[.int .i64 1, .int .i64 2, .int .i64 0] 3)).alloc (Nat.le_trans B7.out.size (by simp)) (.cells #[.int .i64 0, .int .i64 1, .int .i64 0] 3)).alloc (Nat.le_trans B7.out.size (by simp; omega)) (.cells #[.slice (some ⟨w4.heap.size, 0, none⟩) 3 3, .slice (some ⟨w4.heap.size + 1, 0, none⟩) 3 3] 38)
  have BE4 := hid ((((Below.refl _ w4).alloc (Nat.le_refl _) (.cells #[.int .i64 1, .int .i64 2, .int .i64 0] 3)).alloc (by simp) (.cells #[.int .i64 0, .int .i64 1, .int .i64 0] 3)).alloc (by simp; omega) (.cells #[.slice (some ⟨w4.heap.size, 0, none⟩) 3 3, .slice (some ⟨w4.heap.size + 1, 0, none⟩) 3 3] 38))
  have TB := tables_any a1 (some ⟨w4.heap.size + 1 + 1, 0, none⟩) c1 2 (intM (slowM 3)) [[1, 2, 0], [0, 1, 0]] _ (R4.out.below BE4.out (Nat.le_refl _)) (lit_two w4 1 2 0 0 1 0) (by decide) (by decide)
  rw [show decide (intM (slowM 3) = [[1, 2, 0], [0, 1, 0]]) = true by decide] at TB
  have B8 := hid b8
  have TB := hid TB
  clear b8
  refine TB.out.mono ?_
  rintro e w5 ⟨rfl, hb5⟩
  have b9 := B8.out.trans (hb5.mono B8.out.size)
  have B9 := hid b9
  have V5 := hid (V4.out.below (BE4.out.trans (hb5.mono BE4.out.size)) (Nat.le_refl _))
  clear b9 hb5 TB B8
  go_wp2_with fail
  have hal := (Below.refl w5.heap.size w5).alloc (Nat.le_refl _) (.cells #[.int .i64 0, .int .i64 1] 3)
  have i1 : Ints (w5.alloc (.cells #[.int .i64 0, .int .i64 1] 3)) a3 [0, 1] := V5.out.below hal (Nat.le_refl _)
  have IE := ints_any a3 (some ⟨w5.heap.size, 0, none⟩) c3 2 [0, 1] [0, 1] _ i1 (ints_blk (Blk.new w5 #[.int .i64 0, .int .i64 1] 3) rfl) (by decide)
  rw [show decide (([0, 1] : List Int) = [0, 1]) = true by decide] at IE
  have IE := hid IE
  have B10 := hid (B9.out.alloc B9.out.size (.cells #[.int .i64 0, .int .i64 1] 3))
  clear hal i1
  refine IE.out.mono ?_
  rintro e w6 ⟨rfl, hb6⟩
  have b11 := B10.out.trans (hb6.mono B10.out.size)
  have B11 := hid b11
  clear b11 hb6 IE B10
  go_wp2_with fail
  go_ret
  exact ⟨rfl, B11.out⟩
end Go.Proofs.YthlgdakdjikjhaaDoor
