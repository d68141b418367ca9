/-
  Texts merged: L, M, N, O, P, Q, R.
-/
import Derived.Test.YthlgdakdjikjhaaDoorUD
import Derived.Test.YthlgdakdjikjhaaDoorUA
import Derived.Test.YthlgdakdjikjhaaDoorUC
import Derived.Deep.RegionWith
/-
  Walks: lists and tables are equal.
-/
namespace Go.Proofs.YthlgdakdjikjhaaDoor
open Go.RowKit Go.ChangeMaps
attribute [local go_sem] Oper.semAt_some

theorem take_eq_succ {α : Type} {l m : List α} {k : Nat} {x y : α} (h : l.take k = m.take k) (hx : l[k]? = some x) (hy : m[k]? = some y) : (l.take (k + 1) = m.take (k + 1) ↔ x = y) := by
  rw [List.take_add_one, List.take_add_one, hx, hy, h]
  simp
theorem ne_at {α : Type} {l m : List α} {k : Nat} {x y : α} (hx : l[k]? = some x) (hy : m[k]? = some y) (hne : x ≠ y) : l ≠ m := by
  intro e; subst e; rw [hx] at hy; exact hne (Option.some.inj hy)

set_option maxHeartbeats 1000000 in
theorem ints_any (a b : Option Addr) (ca cb : Nat) (l m : List Int) (w : World) (ha : Ints w a l) (hb : Ints w b m) (hl : l.length ≤ 1000000) :
    Calls Tryd.prog 36 #[.slice a l.length ca, .slice b m.length cb] w fun e w' => e = .returned (.bool (decide (l = m))) ∧ Below w.heap.size w w' := by
  by_cases hlen : l.length = m.length
  · have d0 : ((l.length : Int) != (m.length : Int)) = false := by simp [hlen]
    have HA := hid ha
    have HB := hid hb
    have HLEN := hid hlen
    have hml : (m.length : Int) = (l.length : Int) := by omega
    rw [show Value.slice b m.length cb = .slice b l.length cb by rw [hlen]] 
    rw [hml] at d0
    clear ha hb hlen hml
    go_enter Tryd.func36, Tryd.ntmps36
    go_wp2_with fail
    go_loopw [5] (fun iv W => ∃ k : Nat, iv = .int .i64 k ∧ k ≤ l.length ∧ Below w.heap.size w W ∧ Hid (l.take k = m.take k)) (fun iv _ => l.length - (intOf iv).toNat)
    case atStart => exact ⟨0, rfl, by omega, Below.refl _ _, by rw [Hid]; rfl⟩
    case round =>
      obtain ⟨k, rfl, hk, hBw, HT⟩ := hrel
      by_cases hlt : k < l.length
      · obtain ⟨x, hx⟩ : ∃ x, l[k]? = some x := ⟨_, List.getElem?_eq_getElem hlt⟩
        obtain ⟨y, hy⟩ : ∃ y, m[k]? = some y := ⟨_, List.getElem?_eq_getElem (by rw [← HLEN.out]; exact hlt)⟩
        obtain ⟨g1, o1, rfl, hg1, hc1⟩ := HA.out.at (by omega)
        obtain ⟨g2, o2, rfl, hg2, hc2⟩ := HB.out.at (by rw [← HLEN.out]; omega)
        have q1 := (hBw.cell (p := ⟨g1, o1 + k, none⟩) hg1).trans (hc1 k x hx)
        have q2 := (hBw.cell (p := ⟨g2, o2 + k, none⟩) hg2).trans (hc2 k y hy)
        have hs := take_eq_succ HT.out hx hy
        by_cases hxy : x = y
        · have HN := hid (hs.2 hxy)
          subst hxy
          have d1 : (x != x) = false := by simp
          clear hx hy hc1 hc2 hs
          go_wp2_with fail
          go_quiet (fail)
          go_wp2_with fail
          exact ⟨⟨k + 1, by go_num, by omega, below_drewN hBw nq, HN⟩, by simp [intOf]; omega⟩
        · have hne : decide (l = m) = false := decide_eq_false (ne_at hx hy hxy)
          have HN := hid hne
          have d1 : (x != y) = true := by simp [hxy]
          clear hx hy hc1 hc2 hs hne hxy
          go_wp2_with fail
          go_quiet (fail)
          go_wp2_with fail
          go_ret
          exact ⟨ret_bool HN.out.symm, below_drewN hBw nq⟩
      · have heq : decide (l = m) = true := by
          have h1 := HT.out
          rw [List.take_of_length_le (by omega), List.take_of_length_le (by rw [← HLEN.out]; omega)] at h1
          exact decide_eq_true h1
        have HN := hid heq
        clear heq
        go_wp2_with fail
        go_ret
        exact ⟨ret_bool HN.out.symm, hBw⟩
  · have d0 : ((l.length : Int) != (m.length : Int)) = true := by simp; omega
    have hne : decide (l = m) = false := decide_eq_false fun e => hlen (by rw [e])
    have HN := hid hne
    clear hne ha hb
    go_enter Tryd.func36, Tryd.ntmps36
    go_wp2_with fail
    go_ret
    exact ⟨ret_bool HN.out.symm, Below.refl _ _⟩

set_option maxHeartbeats 2000000 in
theorem tables_any (a b : Option Addr) (ca cb : Nat) (X Y : List (List Int)) (w : World) (ha : RowsAt w a X) (hb : RowsAt w b Y) (hl : X.length ≤ 1000000) (hl2 : ∀ r ∈ X, r.length ≤ 1000000) :
    Calls Tryd.prog 18 #[.slice a X.length ca, .slice b Y.length cb] w fun e w' => e = .returned (.bool (decide (X = Y))) ∧ Below w.heap.size w w' := by
  by_cases hlen : X.length = Y.length
  · have d0 : ((X.length : Int) != (X.length : Int)) = false := by simp
    have HA := hid ha
    have HB := hid hb
    have HLEN := hid hlen
    have HL2 := hid hl2
    rw [show Value.slice b Y.length cb = .slice b X.length cb by rw [hlen]]
    clear ha hb hlen hl2
    go_enter Tryd.func18, Tryd.ntmps18
    go_wp2_with fail
    go_loopw [5] (fun iv W => ∃ k : Nat, iv = .int .i64 k ∧ k ≤ X.length ∧ Below w.heap.size w W ∧ Hid (X.take k = Y.take k)) (fun iv _ => X.length - (intOf iv).toNat)
    case atStart => exact ⟨0, rfl, by omega, Below.refl _ _, by rw [Hid]; rfl⟩
    case round =>
      obtain ⟨k, rfl, hk, hBw, HT⟩ := hrel
      by_cases hlt : k < X.length
      · obtain ⟨x, hx⟩ : ∃ x, X[k]? = some x := ⟨_, List.getElem?_eq_getElem hlt⟩
        obtain ⟨y, hy⟩ : ∃ y, Y[k]? = some y := ⟨_, List.getElem?_eq_getElem (by rw [← HLEN.out]; exact hlt)⟩
        obtain ⟨g1, o1, b1, c1, rfl, hg1, p1, i1, -, -⟩ := HA.out.at k x hx
        obtain ⟨g2, o2, b2, c2, rfl, hg2, p2, i2, -, -⟩ := HB.out.at k y hy
        have q1 := (hBw.cell (p := ⟨g1, o1 + k, none⟩) hg1).trans p1
        have q2 := (hBw.cell (p := ⟨g2, o2 + k, none⟩) hg2).trans p2
        have hbd := hBw.drew
        have C := ints_any b1 b2 c1 c2 x y wr.drew (i1.below hbd (Nat.le_refl _)) (i2.below hbd (Nat.le_refl _)) (HL2.out x (List.mem_of_getElem? hx))
        have hs := take_eq_succ HT.out hx hy
        have HBD := hid hbd
        by_cases hxy : x = y
        · have HN := hid (hs.2 hxy)
          rw [decide_eq_true hxy] at C
          have C := hid C
          clear hx hy hs p1 p2 i1 i2 hbd hxy
          go_wp2_with fail
          go_region_with (go_at_call 36; refine C.out.mono ?_; rintro e w1 ⟨rfl, hb1⟩)
          all_goals
            have h1 := HBD.out.trans (hb1.mono HBD.out.size)
            clear hb1
            go_wp2_with fail
            exact ⟨⟨k + 1, by go_num, by omega, h1, HN⟩, by simp [intOf]; omega⟩
        · have hne : decide (X = Y) = false := decide_eq_false (ne_at hx hy hxy)
          have HN := hid hne
          rw [decide_eq_false hxy] at C
          have C := hid C
          clear hx hy hs p1 p2 i1 i2 hbd hxy hne
          go_wp2_with fail
          go_region_with (go_at_call 36; refine C.out.mono ?_; rintro e w1 ⟨rfl, hb1⟩)
          all_goals
            have h1 := HBD.out.trans (hb1.mono HBD.out.size)
            clear hb1
            go_wp2_with fail
            go_ret
            exact ⟨ret_bool HN.out.symm, h1⟩
      · have heq : decide (X = Y) = true := by
          have h1 := HT.out
          rw [List.take_of_length_le (by omega), List.take_of_length_le (by rw [← HLEN.out]; omega)] at h1
          exact decide_eq_true h1
        have HN := hid heq
        clear heq
        go_wp2_with fail
        go_ret
        exact ⟨ret_bool HN.out.symm, hBw⟩
  · have d0 : ((X.length : Int) != (Y.length : Int)) = true := by simp; omega
    have hne : decide (X = Y) = false := decide_eq_false fun e => hlen (by rw [e])
    have HN := hid hne
    clear hne ha hb hl2
    go_enter Tryd.func18, Tryd.ntmps18
    go_wp2_with fail
    go_ret
    exact ⟨ret_bool HN.out.symm, Below.refl _ _⟩
end Go.Proofs.YthlgdakdjikjhaaDoor
/-
  Walks: the law's simple results.
-/
namespace Go.Proofs.YthlgdakdjikjhaaDoor
open Go.RowKit Go.ChangeMaps
attribute [local go_sem] Oper.semAt_some

def m0 : List (List Nat) := [[1, 2, 0], [0, 1, 0]]
def m1 : List (List Nat) := [[1, 0]]
theorem m0_ok : OkM m0 := ⟨by decide, by decide, by decide, by decide, by decide, by decide⟩
theorem m1_ok : OkM m1 := ⟨by decide, by decide, by decide, by decide, by decide, by decide⟩
theorem m0_first : (firstE m0 (allS m0) oneB).map (fun x => (x.word, lowN x.set)) = some ([98, 97, 97, 98], 0) := by decide +kernel
theorem m1_apart : apartL m1 = [0, 1] := by decide +kernel
theorem m1_min : minN m1 = 2 := by decide +kernel
theorem m0_reset : resetV (firstE m0 (allS m0) oneB) = .tuple #[.string ⟨#[98, 97, 97, 98]⟩, .int .i64 0, .int .i64 0] := by
  have h := m0_first
  cases hf : firstE m0 (allS m0) oneB with
  | none => rw [hf] at h; simp at h
  | some x =>
    rw [hf] at h
    simp only [Option.map_some, Option.some.injEq, Prod.mk.injEq] at h
    simp only [resetV, h.1, h.2]
    rfl
theorem rank_form (m : Nat) (q : Option Ent) : ∃ s : ByteArray, rankV m q = .tuple #[.int .i64 (m : Int), .string s, .int .i64 0] := by
  cases q with
  | none => exact ⟨_, rfl⟩
  | some x => exact ⟨_, rfl⟩
theorem ints_blk {w : World} {b : Nat} {cs : Array Value} {t : TypeId} {l : List Int} (h : Blk w b cs t) (hl : cs.toList = l.map (Value.int .i64)) : Ints w (some ⟨b, 0, none⟩) l :=
  .inr ⟨b, 0, rfl, h.lt, fun i u hu => by rw [Nat.zero_add, h.cell i, ← Array.getElem?_toList, hl]; exact hu⟩
theorem rows_two {w : World} {b1 b2 n1 n2 : Nat} {l1 l2 : List Int} (h1 : Ints w (some ⟨b1, 0, none⟩) l1) (h2 : Ints w (some ⟨b2, 0, none⟩) l2) (e1 : n1 = l1.length) (e2 : n2 = l2.length) :
    RowsAt (w.alloc (.cells #[.slice (some ⟨b1, 0, none⟩) n1 n1, .slice (some ⟨b2, 0, none⟩) n2 n2] 38)) (some ⟨w.heap.size, 0, none⟩) [l1, l2] := by
  subst e1 e2
  have hal : Below w.heap.size w (w.alloc (.cells #[.slice (some ⟨b1, 0, none⟩) l1.length l1.length, .slice (some ⟨b2, 0, none⟩) l2.length l2.length] 38)) := (Below.refl _ w).alloc (Nat.le_refl _) _
  refine ⟨_, vals_new w _ _ _ rfl, rfl, fun i r hr => ?_⟩
  match i with
  | 0 =>
    simp only [List.getElem?_cons_zero, Option.some.injEq] at hr
    subst hr
    exact ⟨_, _, rfl, h1.below hal (Nat.le_refl _), (fun h => by cases h), Nat.le_refl _⟩
  | 1 =>
    simp only [List.getElem?_cons_succ, List.getElem?_cons_zero, Option.some.injEq] at hr
    subst hr
    exact ⟨_, _, rfl, h2.below hal (Nat.le_refl _), (fun h => by cases h), Nat.le_refl _⟩
  | k + 2 => simp at hr
theorem rows_one {w : World} {b1 n1 : Nat} {l1 : List Int} (h1 : Ints w (some ⟨b1, 0, none⟩) l1) (e1 : n1 = l1.length) :
    RowsAt (w.alloc (.cells #[.slice (some ⟨b1, 0, none⟩) n1 n1] 38)) (some ⟨w.heap.size, 0, none⟩) [l1] := by
  subst e1
  have hal : Below w.heap.size w (w.alloc (.cells #[.slice (some ⟨b1, 0, none⟩) l1.length l1.length] 38)) := (Below.refl _ w).alloc (Nat.le_refl _) _
  refine ⟨_, vals_new w _ _ _ rfl, rfl, fun i r hr => ?_⟩
  match i with
  | 0 =>
    simp only [List.getElem?_cons_zero, Option.some.injEq] at hr
    subst hr
    exact ⟨_, _, rfl, h1.below hal (Nat.le_refl _), (fun h => by cases h), Nat.le_refl _⟩
  | k + 1 => simp at hr
/-- The literal of two rows of three, as the walk lays it. -/
theorem lit_two (w : World) (a b c d e f : Int) : RowsAt (((w.alloc (.cells #[.int .i64 a, .int .i64 b, .int .i64 c] 3)).alloc (.cells #[.int .i64 d, .int .i64 e, .int .i64 f] 3)).alloc (.cells #[.slice (some ⟨w.heap.size, 0, none⟩) 3 3, .slice (some ⟨w.heap.size + 1, 0, none⟩) 3 3] 38)) (some ⟨w.heap.size + 1 + 1, 0, none⟩) [[a, b, c], [d, e, f]] := by
  have h1 : Blk ((w.alloc (.cells #[.int .i64 a, .int .i64 b, .int .i64 c] 3)).alloc (.cells #[.int .i64 d, .int .i64 e, .int .i64 f] 3)) w.heap.size #[.int .i64 a, .int .i64 b, .int .i64 c] 3 := (Blk.new w _ _).alloc _
  have h2 : Blk ((w.alloc (.cells #[.int .i64 a, .int .i64 b, .int .i64 c] 3)).alloc (.cells #[.int .i64 d, .int .i64 e, .int .i64 f] 3)) (w.heap.size + 1) #[.int .i64 d, .int .i64 e, .int .i64 f] 3 := Blk.mk' (by simp) rfl
  have := rows_two (n1 := 3) (n2 := 3) (ints_blk (l := [a, b, c]) h1 rfl) (ints_blk (l := [d, e, f]) h2 rfl) rfl rfl
  simpa using this
theorem lit_one (w : World) (a b : Int) : RowsAt ((w.alloc (.cells #[.int .i64 a, .int .i64 b] 3)).alloc (.cells #[.slice (some ⟨w.heap.size, 0, none⟩) 2 2] 38)) (some ⟨w.heap.size + 1, 0, none⟩) [[a, b]] := by
  have := rows_one (n1 := 2) (ints_blk (l := [a, b]) (Blk.new w #[.int .i64 a, .int .i64 b] 3) rfl) rfl
  simpa using this

set_option maxRecDepth 20000 in
set_option maxHeartbeats 4000000 in
theorem awake_any (w : World) (hG : Glob w) : Calls Tryd.prog 17 #[] w fun e w' => e = .returned (.bool true) ∧ Below w.heap.size w w' := by
  have HG := hid hG
  have SL := hid (Slow_yes 3 w (by omega) (by omega))
  clear hG
  go_enter Tryd.func17, Tryd.ntmps17
  go_wp2_with fail
  refine SL.out.mono ?_
  rintro e w1 ⟨a1, c1, rfl, hr1, hb1⟩
  have HR1 := hid hr1
  have HB1 := hid hb1
  clear hr1 hb1
  go_wp2_with fail
  have b2 := ((HB1.out.alloc HB1.out.size (.cells #[.int .i64 1, .int .i64 2, .int .i64 0] 3)).alloc (Nat.le_trans HB1.out.size (by simp)) (.cells #[.int .i64 0, .int .i64 1, .int .i64 0] 3)).alloc (Nat.le_trans HB1.out.size (by simp; omega)) (.cells #[.slice (some ⟨w1.heap.size, 0, none⟩) 3 3, .slice (some ⟨w1.heap.size + 1, 0, none⟩) 3 3] 38)
  have RS := hid (Reset_yes (some ⟨w1.heap.size + 1 + 1, 0, none⟩) 2 m0 _ m0_ok (lit_two w1 1 2 0 0 1 0) (HG.out.next b2))
  rw [m0_reset] at RS
  have B2 := hid b2
  have BE1 := hid ((((Below.refl _ w1).alloc (Nat.le_refl _) (.cells #[.int .i64 1, .int .i64 2, .int .i64 0] 3)).alloc (by simp) (.cells #[.int .i64 0, .int .i64 1, .int .i64 0] 3)).alloc (by simp; omega) (.cells #[.slice (some ⟨w1.heap.size, 0, none⟩) 3 3, .slice (some ⟨w1.heap.size + 1, 0, none⟩) 3 3] 38))
  clear b2
  refine RS.out.mono ?_
  rintro e w2 ⟨rfl, hb2⟩
  have b3 := B2.out.trans (hb2.mono B2.out.size)
  have R2 := hid (HR1.out.below (BE1.out.trans (hb2.mono BE1.out.size)) (Nat.le_refl _))
  have B3 := hid b3
  clear hb2 b3 RS B2
  go_wp2_with fail
  have b4 := (B3.out.alloc B3.out.size (.cells #[.int .i64 1, .int .i64 0] 3)).alloc (Nat.le_trans B3.out.size (by simp)) (.cells #[.slice (some ⟨w2.heap.size, 0, none⟩) 2 2] 38)
  have AP := hid (Apart_yes (some ⟨w2.heap.size + 1, 0, none⟩) 1 m1 _ m1_ok (lit_one w2 1 0))
  rw [m1_apart] at AP
  have B4 := hid b4
  have BE2 := hid (((Below.refl _ w2).alloc (Nat.le_refl _) (.cells #[.int .i64 1, .int .i64 0] 3)).alloc (by simp) (.cells #[.slice (some ⟨w2.heap.size, 0, none⟩) 2 2] 38))
  clear b4
  refine AP.out.mono ?_
  rintro e w3 ⟨a3, c3, rfl, ho3, hb3⟩
  have V3 := hid (own_vals ho3.out).1
  have b5 := B4.out.trans (hb3.mono B4.out.size)
  have R3 := hid (R2.out.below (BE2.out.trans (hb3.mono BE2.out.size)) (Nat.le_refl _))
  have B5 := hid b5
  clear b5 hb3 ho3 AP B4
  go_wp2_with fail
  have b6 := (B5.out.alloc B5.out.size (.cells #[.int .i64 1, .int .i64 0] 3)).alloc (Nat.le_trans B5.out.size (by simp)) (.cells #[.slice (some ⟨w3.heap.size, 0, none⟩) 2 2] 38)
  have RK := hid (Rank_yes (some ⟨w3.heap.size + 1, 0, none⟩) 1 m1 _ m1_ok (lit_one w3 1 0))
  obtain ⟨sr, hsr⟩ := rank_form (minN m1) (firstE m1 (allS m1) (hasB (minN m1)))
  rw [hsr, m1_min] at RK
  have B6 := hid b6
  have BE3 := hid (((Below.refl _ w3).alloc (Nat.le_refl _) (.cells #[.int .i64 1, .int .i64 0] 3)).alloc (by simp) (.cells #[.slice (some ⟨w3.heap.size, 0, none⟩) 2 2] 38))
  clear b6 hsr
  refine RK.out.mono ?_
  rintro e w4 ⟨rfl, hb4⟩
  have b7 := B6.out.trans (hb4.mono B6.out.size)
  have B7 := hid b7
  have V4 := hid (V3.out.below (BE3.out.trans (hb4.mono BE3.out.size)) (Nat.le_refl _))
  have R4 := hid (R3.out.below (BE3.out.trans (hb4.mono BE3.out.size)) (Nat.le_refl _))
  clear b7 hb4 RK B6
  go_wp2_with fail
  have b8 := ((B7.out.alloc B7.out.size (.cells #[.int .i64 1, .int .i64 2, .int .i64 0] 3)).alloc (Nat.le_trans B7.out.size (by simp)) (.cells #[.int .i64 0, .int .i64 1, .int .i64 0] 3)).alloc (Nat.le_trans B7.out.size (by simp; omega)) (.cells #[.slice (some ⟨w4.heap.size, 0, none⟩) 3 3, .slice (some ⟨w4.heap.size + 1, 0, none⟩) 3 3] 38)
  have BE4 := hid ((((Below.refl _ w4).alloc (Nat.le_refl _) (.cells #[.int .i64 1, .int .i64 2, .int .i64 0] 3)).alloc (by simp) (.cells #[.int .i64 0, .int .i64 1, .int .i64 0] 3)).alloc (by simp; omega) (.cells #[.slice (some ⟨w4.heap.size, 0, none⟩) 3 3, .slice (some ⟨w4.heap.size + 1, 0, none⟩) 3 3] 38))
  have TB := tables_any a1 (some ⟨w4.heap.size + 1 + 1, 0, none⟩) c1 2 (intM (slowM 3)) [[1, 2, 0], [0, 1, 0]] _ (R4.out.below BE4.out (Nat.le_refl _)) (lit_two w4 1 2 0 0 1 0) (by decide) (by decide)
  rw [show decide (intM (slowM 3) = [[1, 2, 0], [0, 1, 0]]) = true by decide] at TB
  have B8 := hid b8
  have TB := hid TB
  clear b8
  refine TB.out.mono ?_
  rintro e w5 ⟨rfl, hb5⟩
  have b9 := B8.out.trans (hb5.mono B8.out.size)
  have B9 := hid b9
  have V5 := hid (V4.out.below (BE4.out.trans (hb5.mono BE4.out.size)) (Nat.le_refl _))
  clear b9 hb5 TB B8
  go_wp2_with fail
  have hal := (Below.refl w5.heap.size w5).alloc (Nat.le_refl _) (.cells #[.int .i64 0, .int .i64 1] 3)
  have i1 : Ints (w5.alloc (.cells #[.int .i64 0, .int .i64 1] 3)) a3 [0, 1] := V5.out.below hal (Nat.le_refl _)
  have IE := ints_any a3 (some ⟨w5.heap.size, 0, none⟩) c3 2 [0, 1] [0, 1] _ i1 (ints_blk (Blk.new w5 #[.int .i64 0, .int .i64 1] 3) rfl) (by decide)
  rw [show decide (([0, 1] : List Int) = [0, 1]) = true by decide] at IE
  have IE := hid IE
  have B10 := hid (B9.out.alloc B9.out.size (.cells #[.int .i64 0, .int .i64 1] 3))
  clear hal i1
  refine IE.out.mono ?_
  rintro e w6 ⟨rfl, hb6⟩
  have b11 := B10.out.trans (hb6.mono B10.out.size)
  have B11 := hid b11
  clear b11 hb6 IE B10
  go_wp2_with fail
  go_ret
  exact ⟨rfl, B11.out⟩
end Go.Proofs.YthlgdakdjikjhaaDoor
/-
  Walks: copies of lists.
-/
namespace Go.Proofs.YthlgdakdjikjhaaDoor
open Go.RowKit Go.ChangeMaps
attribute [local go_sem] Oper.semAt_some

/-- What a call returns: a new slice that reads as a list. -/
def RetI (l : List Int) (w : World) (e : Ending) (w' : World) : Prop := ∃ a c, e = .returned (.slice a l.length c) ∧ Hid (w'.ownsRow w.heap.size 3 1 (.slice a l.length c) l.length (l.map (Value.int .i64))) ∧ Below w.heap.size w w'

set_option maxHeartbeats 400000 in
theorem listc_any (a : Option Addr) (c : Nat) (l : List Int) (w : World) (ha : Ints w a l) (hc : l.length ≤ c) (hn : a = none → c = 0) (hl : l.length ≤ 9223372036854775807) :
    Calls Tryd.prog 30 #[.slice a l.length c] w (RetI (l.take 11) w) := by
  have hT : Ints w a (l.take 11) := ha.take 11
  have hz : a = none → l.length = 0 ∧ c = 0 := fun h => by have := hn h; omega
  have HN := hid hz
  clear hn hz
  have hm : (l.take 11).length = min 11 l.length := List.length_take
  have HM := hid hm
  clear hm
  by_cases h0 : 11 < l.length
  · have hm1 : min (l.length : Int) 11 = 11 := by omega
    go_enter Tryd.func30, Tryd.ntmps30
    go_wp2_with (at_builtin; go_must (refine wpList_app _ rfl (.tmp 4) (.tmp 9) 38 rfl w.heap.size 3 (.int .i64 0) 8 Tryd.underlying38 Tryd.info3 rfl _ 0 [] rfl (World.ownsRow_nil _ _ _ _) a 11 c _ rfl ?_ hT ?_ (ints_one _) (by omega) (by omega) (Nat.le_refl _) ?_))
    · rw [List.length_map, HM.out]; omega
    · intro h; have := (HN.out h); omega
    · intro v' w1 hown hgrow _
      have h11 : (l.take 11).length = 11 := by rw [HM.out]; omega
      replace hown : w1.ownsRow w.heap.size 3 1 v' 11 ((l.take 11).map (Value.int .i64)) := by simpa using hown
      obtain ⟨a', c', rfl, -, -⟩ := ownsRow_vals hown
      rw [List.length_map, h11] at hown ⊢
      have HO := hid hown
      have HG := hid hgrow
      clear hown hgrow
      go_wp2_with fail
      go_ret
      refine ⟨a', c', by rw [h11]; rfl, by rw [h11]; exact HO, (Below.refl _ w).grown HG.out (Nat.le_refl _) (by simp [Value.ownBlock])⟩
  · have hm1 : min (l.length : Int) 11 = (l.length : Int) := by omega
    have ht : l.take 11 = l := List.take_of_length_le (by omega)
    rw [ht] at hT ⊢
    go_enter Tryd.func30, Tryd.ntmps30
    go_wp2_with (at_builtin; go_must (refine wpList_app _ rfl (.tmp 4) (.tmp 9) 38 rfl w.heap.size 3 (.int .i64 0) 8 Tryd.underlying38 Tryd.info3 rfl _ 0 [] rfl (World.ownsRow_nil _ _ _ _) a l.length c _ rfl ?_ hT ?_ (ints_one _) (by omega) (by omega) (Nat.le_refl _) ?_))
    · rw [List.length_map]
    · exact HN.out
    · intro v' w1 hown hgrow _
      replace hown : w1.ownsRow w.heap.size 3 1 v' l.length (l.map (Value.int .i64)) := by simpa using hown
      obtain ⟨a', c', rfl, -, -⟩ := ownsRow_vals hown
      rw [List.length_map] at hown ⊢
      have HO := hid hown
      have HG := hid hgrow
      clear hown hgrow
      go_wp2_with fail
      go_ret
      refine ⟨a', c', rfl, HO, (Below.refl _ w).grown HG.out (Nat.le_refl _) (by simp [Value.ownBlock])⟩
end Go.Proofs.YthlgdakdjikjhaaDoor
/-
  Walks: copies of lists of lists; lists are a machine.
-/
namespace Go.Proofs.YthlgdakdjikjhaaDoor
open Go.RowKit Go.ChangeMaps
attribute [local go_sem] Oper.semAt_some

/-- A row of rows, all of them a call's own. -/
structure Tab (w0 W : World) (v : Value) (T : List (List Int)) : Prop where
  below : Below w0.heap.size w0 W
  ex : ∃ vs, W.ownsRow w0.heap.size 38 1 v T.length vs ∧ ∀ (i : Nat) (r : List Int), T[i]? = some r → ∃ b c, vs[i]? = some (.slice b r.length c) ∧ W.ownsRow w0.heap.size 3 1 (.slice b r.length c) r.length (r.map (Value.int .i64)) ∧ ∀ k, v.ownBlock = some k → (Value.slice b r.length c).ownBlock ≠ some k
theorem Tab.start (w : World) : Tab w w (.slice none 0 0) [] where
  below := Below.refl _ _
  ex := ⟨[], World.ownsRow_nil _ _ _ _, fun i r h => by simp at h⟩
theorem own_block_lt {w : World} {base e size n : Nat} {v : Value} {xs : List Value} (h : w.ownsRow base e size v n xs) (k : Nat) (hk : v.ownBlock = some k) : base ≤ k ∧ k < w.heap.size := h.lt k hk
/-- Memory that is made or written above changes nothing. -/
theorem Tab.next {w0 W W' : World} {v : Value} {T : List (List Int)} (h : Tab w0 W v T) (hb : Below W.heap.size W W') : Tab w0 W' v T where
  below := h.below.trans (hb.mono h.below.size)
  ex := by
    obtain ⟨vs, h1, h2⟩ := h.ex
    refine ⟨vs, ownsRow_low h1 hb (Nat.le_refl _), fun i r hr => ?_⟩
    obtain ⟨b, c, k1, k2, k3⟩ := h2 i r hr
    exact ⟨b, c, k1, ownsRow_low k2 hb (Nat.le_refl _), k3⟩
theorem own_base {w : World} {base base' e size n : Nat} {v : Value} {xs : List Value} (h : w.ownsRow base e size v n xs) (hb : base' ≤ base) : w.ownsRow base' e size v n xs :=
  ⟨h.1, h.2.imp id fun ⟨g, cap, cur, e1, e2, e3⟩ => ⟨g, cap, cur, e1, Nat.le_trans hb e2, e3⟩⟩
/-- A new row joins. -/
theorem Tab.add {w0 W W1 W2 : World} {v v' : Value} {T : List (List Int)} {r : List Int} {b : Option Addr} {c : Nat} {vs : List Value} (h : Tab w0 W v T) (hb : Below W.heap.size W W1) (hr : W1.ownsRow W.heap.size 3 1 (.slice b r.length c) r.length (r.map (Value.int .i64))) (o : Obj)
    (hvs : W.ownsRow w0.heap.size 38 1 v T.length vs ∧ ∀ (i : Nat) (r : List Int), T[i]? = some r → ∃ b c, vs[i]? = some (.slice b r.length c) ∧ W.ownsRow w0.heap.size 3 1 (.slice b r.length c) r.length (r.map (Value.int .i64)) ∧ ∀ k, v.ownBlock = some k → (Value.slice b r.length c).ownBlock ≠ some k)
    (ho : W2.ownsRow w0.heap.size 38 1 v' (T.length + 1) (vs ++ [.slice b r.length c])) (hg : (W1.alloc o).grownBy W2 v.ownBlock) (hw : v'.ownBlock = v.ownBlock ∨ v'.ownBlock = some (W1.heap.size + 1)) : Tab w0 W2 v' (T ++ [r]) where
  below := by
    have h1 := h.below.size
    have h2 := hb.size
    exact below_app ((h.below.trans (hb.mono h1)).alloc (by omega) _) hg ((ownsRow_low hvs.1 hb (Nat.le_refl _)).alloc o) (by simp; omega) (Nat.le_refl _)
  ex := by
    obtain ⟨h1, h2⟩ := hvs
    have hvl : vs.length = T.length := by
      have := ho.1
      have := h1.1
      omega
    have s1 := h.below.size
    have s2 := hb.size
    refine ⟨_, by simpa using ho, fun i q hq => ?_⟩
    rcases Nat.lt_or_ge i T.length with hi | hi
    · rw [List.getElem?_append_left hi] at hq
      obtain ⟨b', c', k1, k2, k3⟩ := h2 i q hq
      refine ⟨b', c', by rw [List.getElem?_append_left (by omega)]; exact k1, ?_, ?_⟩
      · refine ((ownsRow_low k2 hb (Nat.le_refl _)).alloc o).kept hg ?_
        cases hbk : (Value.slice b' q.length c').ownBlock with
        | none => exact .inl rfl
        | some k => exact .inr fun e => k3 k e.symm hbk
      · intro k hk hb'
        have hl := (k2.lt k hb').2
        rcases hw with hw | hw
        · exact k3 k (by rw [← hw]; exact hk) hb'
        · rw [hw] at hk
          have := Option.some.inj hk
          omega
    · have hi0 : i = T.length := by
        have := (List.getElem?_eq_some_iff.1 hq).1
        rw [List.length_append] at this
        simp at this; omega
      subst hi0
      rw [List.getElem?_append_right (Nat.le_refl _)] at hq
      simp only [Nat.sub_self, List.getElem?_cons_zero, Option.some.injEq] at hq
      subst hq
      refine ⟨b, c, by rw [← hvl, List.getElem?_append_right (Nat.le_refl _)]; simp, ?_, ?_⟩
      · refine (own_base (hr.alloc o) (by omega)).kept hg ?_
        cases hbk : (Value.slice b r.length c).ownBlock with
        | none => exact .inl rfl
        | some k =>
          refine .inr fun e => ?_
          have h3 := (h1.lt k e.symm).2
          have h4 := (hr.lt k hbk).1
          omega
      · intro k hk hb'
        have hl := hr.lt k hb'
        rcases hw with hw | hw
        · rw [hw] at hk
          have h3 := (h1.lt k hk).2
          omega
        · rw [hw] at hk
          have := Option.some.inj hk
          omega
theorem Tab.rows {w0 W : World} {a : Option Addr} {n c : Nat} {T : List (List Int)} (h : Tab w0 W (.slice a n c) T) : n = T.length ∧ RowsAt W a T ∧ (a = none → c = 0) ∧ n ≤ c := by
  obtain ⟨vs, h1, h2⟩ := h.ex
  obtain ⟨a1, c1, he, hv, -⟩ := ownsRow_vals h1
  have hvl : vs.length = T.length := by
    have := h1.1
    omega
  rw [hvl] at he
  cases he
  refine ⟨rfl, ⟨vs, hv, hvl, fun i r hr => ?_⟩, (ownsRow_facts h1).2.2, (ownsRow_facts h1).2.1⟩
  obtain ⟨b, c2, k1, k2, -⟩ := h2 i r hr
  exact ⟨b, c2, k1, (ownsRow_ints k2).elim fun a' ⟨c', e, k⟩ => by cases e; exact k, (ownsRow_facts k2).2.2, (ownsRow_facts k2).2.1⟩

/-- A copy of at most six lists, each of at most eleven numbers. -/
def tabL (X : List (List Int)) : List (List Int) := (X.take 6).map (·.take 11)
/-- What a call returns: a table of the call's own. -/
def RetT (T : List (List Int)) (w : World) (e : Ending) (w' : World) : Prop := ∃ a c, e = .returned (.slice a T.length c) ∧ Hid (Tab w w' (.slice a T.length c) T)
theorem Tryd.info38 : (Tryd.prog.info? 38).map (fun i => (i.zero, i.size, i.bytes)) = some (some (.slice none 0 0), 1, 24) := by kernel_rfl

theorem cells_new (w : World) (u : Value) (t : TypeId) : ∀ (j : Nat) (x : Value), [u][j]? = some x → (w.alloc (.cells #[u] t)).cell? ((⟨w.heap.size, 0, none⟩ : Addr).add j) = some x := by
  intro j x h
  have hj : j = 0 := by
    have := (List.getElem?_eq_some_iff.1 h).1
    simp at this; exact this
  subst hj
  simp only [List.getElem?_cons_zero, Option.some.injEq] at h
  subst h
  exact (Blk.new w #[u] t).cell 0
theorem Tab.vs_len {w0 W : World} {v : Value} {T : List (List Int)} {vs : List Value} (h : W.ownsRow w0.heap.size 38 1 v T.length vs) : vs.length = T.length := by have := h.1; omega

set_option maxHeartbeats 1000000 in
theorem table_any (a : Option Addr) (c : Nat) (X : List (List Int)) (w : World) (hr : RowsAt w a X) (_hl : X.length ≤ maxLen) (hl2 : ∀ r ∈ X, r.length ≤ maxLen) :
    Calls Tryd.prog 22 #[.slice a X.length c] w (RetT (tabL X) w) := by
  have HR := hid hr
  have HL := hid hl2
  have hmx : maxLen ≤ 9223372036854775807 := by decide
  clear hr hl2
  go_enter Tryd.func22, Tryd.ntmps22
  go_wp2_with fail
  go_loopw [3, 4] (fun v iv W => ∃ i : Nat, i ≤ X.length ∧ i ≤ 6 ∧ iv = .int .i64 i ∧ Hid (Tab w W v ((X.take i).map (·.take 11)))) (fun _ iv _ => 6 - (intOf iv).toNat)
  case atStart => exact ⟨0, by omega, by omega, rfl, Tab.start w⟩
  case round =>
    obtain ⟨i, hi, hi6, rfl, HT⟩ := hrel
    by_cases h : i < X.length ∧ i < 6
    · obtain ⟨h1, h2⟩ := h
      have d1 : decide ((i : Int) < (X.length : Int)) = true := decide_eq_true (by omega)
      have d2 : decide ((i : Int) < 6) = true := decide_eq_true (by omega)
      have hB := HT.out.below
      obtain ⟨g, o, b, cr, rfl, hg, q1, hin, hnil, hcap⟩ := HR.out.at i X[i] (List.getElem?_eq_getElem h1)
      have q2 := (hB.cell (p := ⟨g, o + i, none⟩) hg).trans q1
      have C := hid (listc_any b cr X[i] wr (hin.below hB (Nat.le_refl _)) hcap hnil (Nat.le_trans (HL.out _ (List.getElem_mem h1)) hmx))
      have hst : (X.take (i + 1)).map (·.take 11) = (X.take i).map (·.take 11) ++ [X[i].take 11] := by
        rw [List.take_succ_eq_append_getElem h1, List.map_append]; rfl
      have HST := hid hst
      obtain ⟨vs, hvs⟩ := HT.out.ex
      have HVS := hid hvs
      have hTl : ((X.take i).map (·.take 11)).length = i := by rw [List.length_map, List.length_take]; omega
      have HTL := hid hTl
      have hs1 := hid hB.size
      generalize (X.take i).map (·.take 11) = T at *
      generalize X[i] = row at *
      clear hin hnil hcap q1 hst hvs hTl hB
      go_wp2_with fail
      refine C.out.mono ?_
      rintro e w1 ⟨a1, c1, rfl, ho, hb1⟩
      have hbs := hb1.size
      have hv2 := (ownsRow_low HVS.out.1 hb1 (Nat.le_refl _)).alloc (.cells #[.slice a1 (row.take 11).length c1] 38)
      have HB1 := hid hb1
      have HSZ := hid (show (w1.alloc (.cells #[.slice a1 (row.take 11).length c1] 38)).heap.size = w1.heap.size + 1 by simp)
      clear hb1
      generalize hrow : row.take 11 = row' at *
      go_wp2_with (at_builtin; go_must (refine wpList_appN _ rfl (.tmp 15) (.tmp 21) 22 rfl w.heap.size 38 (.slice none 0 0) 1 24 Tryd.underlying22 Tryd.info38 rfl (by omega) _ T.length vs rfl hv2 ⟨w1.heap.size, 0, none⟩ 1 1 [.slice a1 row'.length c1] rfl rfl (cells_new w1 _ 38) (by simp [Value.oneCell']) (by rw [HTL.out]; omega) (by omega) (by rw [HSZ.out]; have := hs1.out; omega) (by omega) ?_))
      intro v' w2 hown' hgrow hwh
      have hadd := HT.out.add (W1 := w1) (W2 := w2) (v' := v') HB1.out ho.out (.cells #[.slice a1 row'.length c1] 38) HVS.out (by simpa using hown') hgrow (by rcases hwh with h | h; exact .inl h; exact .inr h)
      rw [← HST.out] at hadd
      have HADD := hid hadd
      clear hadd hown' hgrow hwh hv2 ho
      go_wp2_with fail
      exact ⟨⟨i + 1, by omega, by omega, by go_num, HADD⟩, by simp [intOf]; omega⟩
    · have hfin : (X.take i).map (·.take 11) = tabL X := by
        unfold tabL
        rcases (show i = 6 ∨ X.length ≤ i by omega) with h6 | h6
        · rw [h6]
        · rw [List.take_of_length_le h6, List.take_of_length_le (by omega)]
      rw [hfin] at HT
      have hB := HT.out.below
      obtain ⟨vs, hvs, -⟩ := HT.out.ex
      obtain ⟨a1, c1, rfl, -, -⟩ := ownsRow_vals hvs
      have hvl := Tab.vs_len hvs
      rw [hvl] at HT ⊢
      clear hvs hfin hvl
      rcases (show ¬ i < X.length ∨ (i < X.length ∧ ¬ i < 6) by omega) with h1 | ⟨h0, h1⟩
      · have d1 : decide ((i : Int) < (X.length : Int)) = false := decide_eq_false (by omega)
        go_wp2_with fail
        go_ret
        exact ⟨a1, c1, rfl, HT⟩
      · have d1 : decide ((i : Int) < (X.length : Int)) = true := decide_eq_true (by omega)
        have d2 : decide ((i : Int) < 6) = false := decide_eq_false (by omega)
        go_wp2_with fail
        go_ret
        exact ⟨a1, c1, rfl, HT⟩

def inR (n : Nat) (q : Int) : Bool := decide (0 ≤ q) && decide (q < (n : Int))
def rowOk (n : Nat) (r : List Int) : Bool := r.length == n && r.all (inR n)
theorem machineB_rows (X : List (List Int)) (h1 : 1 ≤ X.length) (h4 : X.length ≤ 4) : machineB X = ((decide (1 ≤ (X.headD []).length) && decide ((X.headD []).length ≤ 9)) && X.all (rowOk (X.headD []).length)) := by
  unfold machineB
  rw [decide_eq_true h1, decide_eq_true h4]
  simp only [Bool.true_and]
  rfl
theorem inR_no {n : Nat} {q : Int} (h : q < 0 ∨ (n : Int) ≤ q) : inR n q = false := by
  unfold inR
  rcases h with h | h
  · rw [decide_eq_false (by omega)]; rfl
  · rw [decide_eq_false (p := q < (n : Int)) (by omega), Bool.and_false]
theorem inR_yes {n : Nat} {q : Int} (h : 0 ≤ q) (h2 : q < (n : Int)) : inR n q = true := by
  unfold inR
  rw [decide_eq_true h, decide_eq_true h2]; rfl

set_option maxHeartbeats 1000000 in
theorem refMachine_any (a : Option Addr) (c : Nat) (X : List (List Int)) (w : World) (hr : RowsAt w a X) (hl : X.length ≤ 1000000) (hl2 : ∀ r ∈ X, r.length ≤ 1000000) :
    Calls Tryd.prog 24 #[.slice a X.length c] w fun e w' => e = .returned (.bool (machineB X)) ∧ w = w' := by
  by_cases h14 : 1 ≤ X.length ∧ X.length ≤ 4
  · obtain ⟨h1, h4⟩ := h14
    have hm := machineB_rows X h1 h4
    obtain ⟨r0, X', rfl⟩ : ∃ r X', X = r :: X' := by
      cases X with
      | nil => simp at h1
      | cons r X' => exact ⟨r, X', rfl⟩
    obtain ⟨g, o, b0, c0, rfl, hg, q1, -, -, -⟩ := hr.at 0 r0 rfl
    rw [Nat.add_zero] at q1
    have hn := hl2 r0 (List.mem_cons_self ..)
    rw [show ((r0 :: X').headD []).length = r0.length from rfl] at hm
    have HR := hid (fun i r h => hr.at i r h)
    have HL := hid hl2
    have HM := hid hm
    have hN : ∃ N, N = r0.length := ⟨_, rfl⟩
    obtain ⟨N, hN⟩ := hN
    rw [← hN] at hn q1 HM
    have c1 : decide (((r0 :: X').length : Int) < 1) = false := decide_eq_false (by omega)
    have c2 : decide (((r0 :: X').length : Int) > 4) = false := decide_eq_false (by omega)
    generalize r0 :: X' = X at *
    clear hm hr hl2 hN
    go_enter Tryd.func24, Tryd.ntmps24
    go_wp2_with fail
    go_loop [4] (fun iv => ∃ i : Nat, i ≤ X.length ∧ iv = .int .i64 i ∧ Hid (machineB X = ((decide (1 ≤ N) && decide (N ≤ 9)) && (X.drop i).all (rowOk N)))) (fun iv => X.length - (intOf iv).toNat)
    case atStart => exact ⟨0, by omega, rfl, HM⟩
    case round =>
      obtain ⟨i, hi, rfl, H⟩ := hrel
      by_cases hlt : i < X.length
      · obtain ⟨row, hx, hd⟩ := list_drop_cons X i hlt
        obtain ⟨g', o', b1, c1, he, -, q2, hin, -, -⟩ := HR.out i row hx
        cases he
        have hrl := HL.out row (List.mem_of_getElem? hx)
        have HD := hid hd
        clear hd
        by_cases hlen : row.length = N
        · have hrow : rowOk N row = row.all (inR N) := by unfold rowOk; rw [hlen, beq_self_eq_true, Bool.true_and]
          have HROW := hid hrow
          have HIN := hid hin
          subst hlen
          clear hrow hin hx
          go_wp2_with fail
          go_loop [5] (fun qv => ∃ q : Nat, q ≤ row.length ∧ qv = .int .i64 q ∧ Hid (row.all (inR row.length) = (row.drop q).all (inR row.length))) (fun qv => row.length - (intOf qv).toNat)
          case atStart => exact ⟨0, by omega, rfl, rfl⟩
          case round =>
            obtain ⟨q, hq, rfl, HQ⟩ := hrel
            by_cases hqn : q < row.length
            · obtain ⟨x, hx, hd⟩ := list_drop_cons row q hqn
              obtain ⟨g2, o2, rfl, hg2, hcell⟩ := HIN.out.at (by omega)
              have q3 := hcell q x hx
              have HD2 := hid hd
              clear hcell hx hd
              by_cases hx0 : x < 0
              · have hfin : machineB X = false := by
                  rw [H.out, HD.out, List.all_cons, HROW.out, HQ.out, HD2.out, List.all_cons, inR_no (.inl hx0)]
                  simp
                have HF := hid hfin
                have d1 : decide (x < 0) = true := decide_eq_true hx0
                clear hfin
                go_wp2_with fail
                go_ret
                exact ⟨ret_bool HF.out.symm, rfl⟩
              · have d1 : decide (x < 0) = false := decide_eq_false hx0
                by_cases hxn : x < (row.length : Int)
                · have hfin : row.all (inR row.length) = (row.drop (q + 1)).all (inR row.length) := by
                    rw [HQ.out, HD2.out, List.all_cons, inR_yes (by omega) hxn, Bool.true_and]
                  have HF := hid hfin
                  have d2 : decide (x ≥ (row.length : Int)) = false := decide_eq_false (by omega)
                  clear hfin
                  go_wp2_with fail
                  exact ⟨⟨q + 1, by omega, by go_num, HF⟩, by simp [intOf]; omega⟩
                · have hfin : machineB X = false := by
                    rw [H.out, HD.out, List.all_cons, HROW.out, HQ.out, HD2.out, List.all_cons, inR_no (.inr (by omega))]
                    simp
                  have HF := hid hfin
                  have d2 : decide (x ≥ (row.length : Int)) = true := decide_eq_true (by omega)
                  clear hfin
                  go_wp2_with fail
                  go_ret
                  exact ⟨ret_bool HF.out.symm, rfl⟩
            · have hfin : machineB X = ((decide (1 ≤ row.length) && decide (row.length ≤ 9)) && (X.drop (i + 1)).all (rowOk row.length)) := by
                rw [H.out, HD.out, List.all_cons, HROW.out, HQ.out, List.drop_eq_nil_of_le (by omega), List.all_nil, Bool.true_and]
              have HF := hid hfin
              clear hfin
              go_wp2_with fail
              exact ⟨⟨i + 1, by omega, by go_num, HF⟩, by simp [intOf]; omega⟩
        · have hfin : machineB X = false := by
            rw [H.out, HD.out, List.all_cons]
            unfold rowOk
            rw [beq_eq_false_iff_ne.2 hlen]; simp
          have HF := hid hfin
          have d1 : decide ((row.length : Int) = (N : Int)) = false := decide_eq_false (by omega)
          clear hfin
          go_wp2_with fail
          go_ret
          exact ⟨ret_bool HF.out.symm, rfl⟩
      · have hfin : machineB X = (decide (1 ≤ N) && decide (N ≤ 9)) := by
          rw [H.out, List.drop_eq_nil_of_le (by omega), List.all_nil, Bool.and_true]
        have HF := hid hfin
        clear hfin
        go_wp2_with fail
        all_goals (go_ret; exact ⟨ret_bool (by rw [HF.out, Bool.eq_iff_iff]; simp; omega), rfl⟩)
  · have hfin : machineB X = false := by
      unfold machineB
      rcases (show ¬ 1 ≤ X.length ∨ ¬ X.length ≤ 4 by omega) with h | h
      · rw [decide_eq_false h]; simp
      · rw [decide_eq_false h]; simp
    have HF := hid hfin
    clear hfin hr hl2
    go_enter Tryd.func24, Tryd.ntmps24
    rcases (show (X.length : Int) < 1 ∨ (¬ (X.length : Int) < 1 ∧ (X.length : Int) > 4) by omega) with h | ⟨h, h'⟩
    · go_wp2_with fail
      go_ret
      exact ⟨ret_bool HF.out.symm, rfl⟩
    · go_wp2_with fail
      go_ret
      exact ⟨ret_bool HF.out.symm, rfl⟩
end Go.Proofs.YthlgdakdjikjhaaDoor
/-
  Walks: the reference's images of a set in their order.
-/
namespace Go.Proofs.YthlgdakdjikjhaaDoor
open Go.RowKit Go.ChangeMaps
attribute [local go_sem] Oper.semAt_some

def wordV (e : Ent) : Value := .string (mkS e.word)
/-- The sets seen so far. -/
def seenB (L : List Ent) (t : Nat) : Bool := L.any (fun e => e.set == t)
/-- The three rows while the images are found. -/
structure RS (w0 W : World) (N : Nat) (vs vw : Value) (Ls Lw : List Ent) : Prop where
  below : Below w0.heap.size w0 W
  seen : Blk W w0.heap.size (rowB (seenB Ls) N) 4
  sets : W.ownsRow (w0.heap.size + 1) 3 1 vs Ls.length (Ls.map setV)
  words : W.ownsRow (w0.heap.size + 1) 9 1 vw Lw.length (Lw.map wordV)
  ne : ∀ k, vs.ownBlock = some k → vw.ownBlock ≠ some k
theorem RS.size {w0 W : World} {N : Nat} {vs vw : Value} {Ls Lw : List Ent} (h : RS w0 W N vs vw Ls Lw) : w0.heap.size + 1 ≤ W.heap.size := h.seen.lt
theorem seenB_snoc (L : List Ent) (e : Ent) (t : Nat) : seenB (L ++ [e]) t = if t = e.set then true else seenB L t := by
  unfold seenB
  rw [List.any_append]
  by_cases h : t = e.set
  · subst h; simp
  · rw [if_neg h]; simp; intro h2; exact absurd h2.symm h
theorem RS.addSet {w0 W W2 : World} {N : Nat} {vs vw vs' : Value} {Ls Lw : List Ent} (h : RS w0 W N vs vw Ls Lw) (e : Ent) (o : Obj)
    (ho : W2.ownsRow (w0.heap.size + 1) 3 1 vs' (Ls.length + 1) (Ls.map setV ++ [natV e.set])) (hg : ((W.setCell ⟨w0.heap.size, e.set, none⟩ (.bool true)).alloc o).grownBy W2 vs.ownBlock)
    (hw : vs'.ownBlock = vs.ownBlock ∨ vs'.ownBlock = some (W.heap.size + 1)) : RS w0 W2 N vs' vw (Ls ++ [e]) Lw := by
  have hsz := h.size
  have s1 : Below w0.heap.size w0 (W.setCell ⟨w0.heap.size, e.set, none⟩ (.bool true)) := h.below.setCell (Nat.le_refl _) _
  have o1 : (W.setCell ⟨w0.heap.size, e.set, none⟩ (.bool true)).ownsRow (w0.heap.size + 1) 3 1 vs Ls.length (Ls.map setV) :=
    own_same h.sets fun q hq => Below.heap_setCell W ⟨w0.heap.size, e.set, none⟩ _ q (by have := (h.sets.lt q hq).1; show q ≠ w0.heap.size; omega)
  have o2 : (W.setCell ⟨w0.heap.size, e.set, none⟩ (.bool true)).ownsRow (w0.heap.size + 1) 9 1 vw Lw.length (Lw.map wordV) :=
    own_same h.words fun q hq => Below.heap_setCell W ⟨w0.heap.size, e.set, none⟩ _ q (by have := (h.words.lt q hq).1; show q ≠ w0.heap.size; omega)
  have hss : (W.setCell ⟨w0.heap.size, e.set, none⟩ (.bool true)).heap.size = W.heap.size := by simp
  refine ⟨?_, ?_, by simpa [setV] using ho, ?_, ?_⟩
  · exact below_app (s1.alloc (by rw [hss]; omega) _) hg (o1.alloc o) (by simp; omega) (by omega)
  · have b1 := ((h.seen.rowPutB e.set true (g := seenB (Ls ++ [e])) fun i _ => seenB_snoc Ls e i).alloc o)
    refine (hg.block w0.heap.size b1.lt fun hh => ?_).trans b1
    have := (h.sets.lt _ hh.symm).1
    omega
  · refine (o2.alloc o).kept hg ?_
    cases hb : vw.ownBlock with
    | none => exact .inl rfl
    | some k => exact .inr fun e => h.ne k e.symm hb
  · intro k hk hb
    rcases hw with hw | hw
    · exact h.ne k (by rw [← hw]; exact hk) hb
    · rw [hw] at hk
      have h1 := (h.words.lt k hb).2
      have h2 := Option.some.inj hk
      omega
theorem RS.addWord {w0 W W1 W2 : World} {N : Nat} {vs vw vw' : Value} {Ls Lw : List Ent} (h : RS w0 W N vs vw Ls Lw) (e : Ent) (h1 : Below W.heap.size W W1)
    (ho : W2.ownsRow (w0.heap.size + 1) 9 1 vw' (Lw.length + 1) (Lw.map wordV ++ [wordV e])) (hg : W1.grownBy W2 vw.ownBlock)
    (hw : vw'.ownBlock = vw.ownBlock ∨ vw'.ownBlock = some W1.heap.size) : RS w0 W2 N vs vw' Ls (Lw ++ [e]) := by
  have hsz := h.size
  have hs1 := h1.size
  have o1 := ownsRow_low h.sets h1 (Nat.le_refl _)
  have o2 := ownsRow_low h.words h1 (Nat.le_refl _)
  refine ⟨?_, ?_, ?_, by simpa using ho, ?_⟩
  · exact below_app (h.below.trans (h1.mono (by omega))) hg o2 (by omega) (by omega)
  · refine (hg.block w0.heap.size (by omega) fun hh => ?_).trans (h.seen.below h1 h.seen.lt)
    have := (h.words.lt _ hh.symm).1
    omega
  · refine o1.kept hg ?_
    cases hb : vs.ownBlock with
    | none => exact .inl rfl
    | some k => exact .inr fun e => h.ne k hb e.symm
  · intro k hk hb
    rcases hw with hw | hw
    · exact h.ne k hk (by rw [← hw]; exact hb)
    · rw [hw] at hb
      have h3 := (h.sets.lt k hk).2
      have h2 := Option.some.inj hb
      omega
theorem RS.keep {w0 W W1 : World} {N : Nat} {vs vw : Value} {Ls Lw : List Ent} (h : RS w0 W N vs vw Ls Lw) (h1 : Below W.heap.size W W1) : RS w0 W1 N vs vw Ls Lw :=
  ⟨h.below.trans (h1.mono (by have := h.size; omega)), h.seen.below h1 h.seen.lt, ownsRow_low h.sets h1 (Nat.le_refl _), ownsRow_low h.words h1 (Nat.le_refl _), h.ne⟩
theorem Good.wlen {M : List (List Nat)} {s : Nat} {L : List Ent} (h : Good M s L) : ∀ (i : Nat) (e : Ent), L[i]? = some e → e.word.length ≤ i := by
  intro i
  induction i using Nat.strongRecOn with
  | _ i ih =>
    intro e he
    rcases Nat.eq_zero_or_pos i with h0 | h0
    · subst h0
      have := h.head
      rw [he] at this
      cases this; exact Nat.le_refl _
    · obtain ⟨j, p, h1, h2, -, h4, -⟩ := h.par i e he h0
      have := ih j h1 p h2
      rw [h4, List.length_append]; simp; omega
/-- What a call returns: the sets and the words. -/
def RetR (L : List Ent) (w : World) (e : Ending) (w' : World) : Prop := ∃ a1 c1 a2 c2, e = .returned (.tuple #[.slice a1 L.length c1, .slice a2 L.length c2]) ∧
  Hid (w'.ownsRow w.heap.size 3 1 (.slice a1 L.length c1) L.length (L.map setV)) ∧ Hid (w'.ownsRow w.heap.size 9 1 (.slice a2 L.length c2) L.length (L.map wordV)) ∧ Below w.heap.size w w'
theorem Tryd.info9 : (Tryd.prog.info? 9).map (fun i => (i.zero, i.size, i.bytes)) = some (some (.string ⟨#[]⟩), 1, 16) := by kernel_rfl
theorem Tryd.info4 : (Tryd.prog.info? 4).map (fun i => (i.zero, i.size, i.bytes)) = some (some (.bool false), 1, 1) := by kernel_rfl
theorem run_letX (c : Nat) (W : World) (n : Nat) (X : Int) (h : c ≤ 20) (hX : X = 97 + (c : Int)) (hv : Vals W (some ⟨n, 0, none⟩) [.int .u8 X]) : (convert 90 9 (.slice (some ⟨n, 0, none⟩) 1 1)).run Tryd.prog W = .ok (.string (letS c)) W := by
  have := run_strB (P := Tryd.prog) 90 9 5 Tryd.underlying90 Tryd.underlying5 Tryd.underlying9 W (some ⟨n, 0, none⟩) 1 [UInt8.ofNat (97 + c)] (by rw [List.map_singleton, u8v, letter_nat c h, ← hX]; exact hv) (fun h => by cases h)
  exact this
theorem own_built (w : World) (u : Value) (t : TypeId) (base : Nat) (hb : base ≤ w.heap.size) : (w.alloc (.cells #[u] t)).ownsRow base t 1 (.slice (some ⟨w.heap.size, 0, none⟩) 1 1) 1 [u] :=
  ⟨rfl, .inr ⟨w.heap.size, 1, #[u], rfl, hb, Blk.new w _ _, Nat.le_refl _, by decide, rfl, rfl⟩⟩

theorem RS.start (w : World) (s N : Nat) : RS w (((w.alloc (.cells ((rowB (fun _ => false) N).setIfInBounds s (.bool true)) 4)).alloc (.cells #[.int .i64 (s : Int)] 3)).alloc (.cells #[.string ⟨#[]⟩] 9)) N
    (.slice (some ⟨w.heap.size + 1, 0, none⟩) 1 1) (.slice (some ⟨w.heap.size + 1 + 1, 0, none⟩) 1 1) [⟨s, [], 0, 0⟩] [⟨s, [], 0, 0⟩] := by
  have z1 : (w.alloc (.cells ((rowB (fun _ => false) N).setIfInBounds s (.bool true)) 4)).heap.size = w.heap.size + 1 := by simp
  have z2 : ((w.alloc (.cells ((rowB (fun _ => false) N).setIfInBounds s (.bool true)) 4)).alloc (.cells #[.int .i64 (s : Int)] 3)).heap.size = w.heap.size + 1 + 1 := by simp
  refine ⟨?_, ?_, ?_, ?_, ?_⟩
  · exact (((Below.refl _ w).alloc (Nat.le_refl _) _).alloc (by rw [z1]; omega) _).alloc (by rw [z2]; omega) _
  · refine Blk.alloc (Blk.alloc ?_ _) _
    rw [rowB_set]
    refine Blk.mk' rfl (rowB_congr fun i _ => ?_)
    rw [show seenB [⟨s, [], 0, 0⟩] i = seenB ([] ++ [⟨s, [], 0, 0⟩]) i from rfl, seenB_snoc]; rfl
  · have := own_built (w.alloc (.cells ((rowB (fun _ => false) N).setIfInBounds s (.bool true)) 4)) (.int .i64 (s : Int)) 3 (w.heap.size + 1) (by rw [z1]; omega)
    rw [z1] at this
    exact this.alloc _
  · have := own_built ((w.alloc (.cells ((rowB (fun _ => false) N).setIfInBounds s (.bool true)) 4)).alloc (.cells #[.int .i64 (s : Int)] 3)) (.string ⟨#[]⟩) 9 (w.heap.size + 1) (by rw [z2]; omega)
    rw [z2] at this
    exact this
  · intro k hk hb
    have h1 : w.heap.size + 1 = k := by simpa [Value.ownBlock] using hk
    have h2 : w.heap.size + 1 + 1 = k := by simpa [Value.ownBlock] using hb
    omega

theorem cells_at (w : World) (n : Nat) (u : Value) (t : TypeId) (hn : n = w.heap.size) : ∀ (j : Nat) (x : Value), [u][j]? = some x → (w.alloc (.cells #[u] t)).cell? ((⟨n, 0, none⟩ : Addr).add j) = some x := by
  subst hn; exact cells_new w u t
theorem cells_drew {w : World} {l : List Value} {a : Addr} (h : ∀ (j : Nat) (x : Value), l[j]? = some x → w.cell? (a.add j) = some x) : ∀ (j : Nat) (x : Value), l[j]? = some x → w.drew.cell? (a.add j) = some x := h

set_option maxRecDepth 100000 in
set_option maxHeartbeats 4000000 in
theorem refReached_any (a : Option Addr) (c : Nat) (M : List (List Nat)) (s : Nat) (w : World) (hM : OkM M) (hr : RowsAt w a (intM M)) (hs : s < 2 ^ nst M) :
    Calls Tryd.prog 59 #[.slice a M.length c, .int .i64 s] w (RetR (reach M s) w) := by
  have h1 := hM.b1
  have hb4 := hM.b4
  obtain ⟨g, o, b1, c1, rfl, hg, q1, -⟩ := row_at hM hr 0 (by omega)
  rw [Nat.add_zero] at q1
  have hn9 := hM.n9
  have h512 : (2 : Nat) ^ nst M ≤ 512 := Nat.pow_le_pow_right (n := 2) (by omega) hn9
  have PR := hid (fun (x b : Nat) (W : World) (hb : Below w.heap.size w W) (hx : x < 512) (hbl : b < M.length) => refPress_any (some ⟨g, o, none⟩) c M x b W hM (hr.below hb (Nat.le_refl _)) hx hbl)
  have HPL := hid (fun x b => press_lt hM x b)
  have HM := hid hM
  have e0 := pow_wrapK
  have e1 : IntKind.i64.wrap ((2 : Int) ^ nst M) = ((2 ^ nst M : Nat) : Int) := by
    rw [← pow_cast]
    generalize 2 ^ nst M = y at h512
    exact IntWalk.i64_in _ (by omega)
  obtain ⟨N, hN⟩ : ∃ N, N = 2 ^ nst M := ⟨_, rfl⟩
  have hmk2 : ∀ W : World, (Instr.makeSlice 109 (.int .i64 (N : Int)) (.int .i64 (N : Int))).run Tryd.prog W = .ok (.slice (some ⟨W.heap.size, 0, none⟩) N N) (W.alloc (.cells (rowB (fun _ => false) N) 4)) := by
    intro W
    have hmk := run_make_row' (P := Tryd.prog) 109 4 (.bool false) 1 Tryd.underlying109 Tryd.info4 rfl .i64 .i64 N (by omega) (by omega) W
    rw [← rowB_made]; exact hmk
  have HST := hid (show Good M s [⟨s, [], 0, 0⟩] from Good.start M s hs)
  rw [← hN] at hs h512 e1 HPL
  have hRE : reach M s = bfsF M (513 - 0) 0 [⟨s, [], 0, 0⟩] := rfl
  have HRE := hid hRE
  have HN := hid hN
  have hget := rowB_get (fun _ => false) N s hs
  have HB0 := hid (Blk.new w (rowB (fun _ => false) N) 4)
  obtain ⟨n, hn⟩ : ∃ n, n = nst M := ⟨_, rfl⟩
  rw [← hn] at q1 e1 hn9
  clear hr hM hRE e0 hN hn
  go_enter Tryd.func59, Tryd.ntmps59
  go_wp2_with fail
  go_loopw [7, 8, 9] (fun vs vw iv W => ∃ (i : Nat) (L : List Ent), iv = .int .i64 i ∧ i ≤ L.length ∧ Hid (Good M s L) ∧ Hid (RS w W N vs vw L L) ∧ Hid (reach M s = bfsF M (513 - i) i L)) (fun _ _ iv _ => 513 - (intOf iv).toNat)
  case atStart =>
    refine ⟨0, [⟨s, [], 0, 0⟩], rfl, by simp, HST, ?_, HRE.out⟩
    exact RS.start w s N
  case round =>
    obtain ⟨i, L, rfl, hi, HG, HS, HB⟩ := hrel
    have hL5 := HG.out.len HM.out
    by_cases hlt : i < L.length
    · obtain ⟨x, hx⟩ : ∃ x, L[i]? = some x := ⟨_, List.getElem?_eq_getElem hlt⟩
      have hx5 : x.set < 512 := by
        have := HG.out.lt x (List.mem_of_getElem? hx)
        rw [← HN.out] at this; omega
      have hst : bfsF M (513 - i) i L = bfsF M (513 - (i + 1)) (i + 1) (growF M x M.length 0 L) := by
        rw [show 513 - i = (513 - (i + 1)) + 1 by omega]; exact bfsF_step hx
      have hwl := HG.out.wlen i x hx
      obtain ⟨gs, cs, rfl, -, -, -⟩ := own_at HS.out.sets (by omega)
      obtain ⟨gw, cw, rfl, -, -, -⟩ := own_at HS.out.words (by omega)
      have HX := hid hx
      have HST2 := hid hst
      have HWL := hid hwl
      clear hx hst hwl
      go_wp2_with fail
      go_loopw [7, 8, 10] (fun vs vw bv W => ∃ (b : Nat) (L' : List Ent), bv = .int .i64 b ∧ b ≤ M.length ∧ i < L'.length ∧ Hid (L'[i]? = some x) ∧ Hid (Good M s L') ∧ Hid (RS w W N vs vw L' L') ∧ Hid (growF M x M.length 0 L = growF M x (M.length - b) b L')) (fun _ _ bv _ => M.length - (intOf bv).toNat)
      case atStart => exact ⟨0, L, rfl, by omega, hlt, HX, HG, HS, rfl⟩
      case round =>
        obtain ⟨b, L', rfl, hb, hil, HX', HG', HS', HGR⟩ := hrel
        have hL5' := HG'.out.len HM.out
        obtain ⟨g2, c2, rfl, hgb2, hg2, hcell2⟩ := own_at HS'.out.sets (by omega)
        obtain ⟨g3, c3, rfl, hgb3, hg3, hcell3⟩ := own_at HS'.out.words (by omega)
        have hsz := HS'.out.size
        by_cases hlb : b < M.length
        · have q2 := hcell2 i (natV x.set) (by rw [List.getElem?_map, HX'.out]; rfl)
          unfold natV at q2
          have q3 := HS'.out.seen.rowBt (press M x.set b) (HPL.out _ _)
          have f3 := HS'.out.seen.free (press M x.set b)
          have PC := hid (PR.out x.set b wr HS'.out.below hx5 hlb)
          have hyN := HPL.out x.set b
          obtain ⟨y, hy⟩ : ∃ y, y = press M x.set b := ⟨_, rfl⟩
          rw [← hy] at PC q3 f3 hyN
          have HY := hid hy
          clear hy
          cases hany : seenB L' y with
          | true =>
            rw [hany] at q3
            have hg1 : growF M x M.length 0 L = growF M x (M.length - (b + 1)) (b + 1) L' := by
              rw [HGR.out, show M.length - b = (M.length - (b + 1)) + 1 by omega, growF, grow1, if_pos (by rw [← HY.out]; exact hany)]
            have HG1 := hid hg1
            clear hg1 hany hcell2 hcell3
            go_wp2_with fail
            refine PC.out.mono ?_
            rintro e w3 ⟨rfl, rfl⟩
            go_wp2_with fail
            exact ⟨⟨b + 1, L', by go_num, by omega, hil, HX', HG', HS', HG1⟩, by simp [intOf]; omega⟩
          | false =>
            rw [hany] at q3
            have hg1 : growF M x M.length 0 L = growF M x (M.length - (b + 1)) (b + 1) (L' ++ [⟨y, x.word ++ [UInt8.ofNat (97 + b)], x.set, 97 + b⟩]) := by
              rw [HGR.out, show M.length - b = (M.length - (b + 1)) + 1 by omega, growF, grow1, if_neg (by rw [← HY.out]; show ¬ seenB L' y = true; rw [hany]; simp), ← HY.out]
            have hg2' : Good M s (L' ++ [⟨y, x.word ++ [UInt8.ofNat (97 + b)], x.set, 97 + b⟩]) := by
              have := HG'.out.grow1 HM.out HX'.out hlb
              rw [grow1, if_neg (by rw [← HY.out]; show ¬ seenB L' y = true; rw [hany]; simp), ← HY.out] at this
              exact this
            have hx2 : (L' ++ [⟨y, x.word ++ [UInt8.ofNat (97 + b)], x.set, 97 + b⟩])[i]? = some x := app_at HX'.out
            have HG1 := hid hg1
            have HG2 := hid hg2'
            have HX2 := hid hx2
            have ho1 : (wr.setCell ⟨w.heap.size, y, none⟩ (.bool true)).ownsRow (w.heap.size + 1) 3 1 (.slice (some ⟨g2, 0, none⟩) L'.length c2) L'.length (L'.map setV) :=
              own_same HS'.out.sets fun q hq => Below.heap_setCell wr ⟨w.heap.size, y, none⟩ _ q (by have := (HS'.out.sets.lt q hq).1; show q ≠ w.heap.size; omega)
            have HSZ := hid (show (wr.setCell ⟨w.heap.size, y, none⟩ (.bool true)).heap.size = wr.heap.size by simp)
            clear hg1 hg2' hx2 hany hcell2 hcell3
            have hv1 : Vals ((wr.setCell ⟨w.heap.size, y, none⟩ (.bool true)).alloc (.cells #[.int .i64 (y : Int)] 3)) (some ⟨wr.heap.size, 0, none⟩) [.int .i64 (y : Int)] := by
              rw [← HSZ.out]; exact vals_new _ _ _ _ rfl
            go_wp2_with fail
            refine PC.out.mono ?_
            rintro e w3 ⟨rfl, rfl⟩
            go_wp2_with (at_builtin; go_must (refine wpList_app2 _ rfl (.tmp 51) (.tmp 53) 38 rfl (w.heap.size + 1) 3 (.int .i64 0) 8 Tryd.underlying38 Tryd.info3 rfl _ L'.length _ rfl (ho1.alloc _) (some ⟨wr.heap.size, 0, none⟩) 1 1 [.int .i64 _] rfl rfl hv1 (fun h => by cases h) (by simp [Value.oneCell']) (by omega) (by omega) (by simp; omega) ?_))
            intro vs' w5 hown' hgrow hwh
            have HS5 := hid (HS'.out.addSet ⟨y, x.word ++ [UInt8.ofNat (97 + b)], x.set, 97 + b⟩ _ hown' hgrow (by rcases hwh with h | h; exact .inl h; exact .inr (by rw [h])))
            obtain ⟨g6, c6, hvs6, -, -, -⟩ := own_at HS5.out.sets (by simp)
            subst hvs6
            have HL9 := hid (show L'.length + 1 ≤ 1000000000 by omega)
            have w1 : IntKind.u8.wrap (97 + (b : Int)) = 97 + (b : Int) := IntWalk.u8_in _ (by omega)
            have w2 : IntKind.i64.wrap (97 + (b : Int)) = 97 + (b : Int) := IntWalk.i64_in _ (by omega)
            clear hown' hgrow hwh hv1 ho1
            obtain ⟨g7, c7, he7, hgb7, hg7, hcell7⟩ := own_at HS5.out.words (by omega)
            cases he7
            have q7 := hcell7 i (wordV x) (by rw [List.getElem?_map, HX'.out]; rfl)
            unfold wordV at q7
            have hsz5 := HS5.out.size
            have ho7 := HS5.out.words
            have hcvA := run_letX b (w5.alloc (.cells #[.int .u8 (97 + (b : Int))] 5)) w5.heap.size (97 + (b : Int)) (by omega) rfl (vals_new _ _ _ _ rfl)
            have hcvB := run_letX b (w5.alloc (.cells #[.int .u8 (97 + (b : Int))] 5)).drew w5.heap.size (97 + (b : Int)) (by omega) rfl (vals_drew (vals_new _ _ _ _ rfl))
            have hcvC := run_letX b (w5.drew.alloc (.cells #[.int .u8 (97 + (b : Int))] 5)) w5.heap.size (97 + (b : Int)) (by omega) rfl (vals_new _ _ _ _ rfl)
            have hsq : ¬ 9223372036854775807 < (mkS x.word).size + (letS b).size := by rw [mkS_size, letS_size]; have := HWL.out; omega
            have hadd := letS_add x.word b
            obtain ⟨t, ht⟩ : ∃ t, t = x.word ++ [UInt8.ofNat (97 + b)] := ⟨_, rfl⟩
            rw [← ht] at hadd HS5 HG1 HG2 HX2
            have HT := hid ht
            clear hcell7 ht
            go_wp2_with fail
            go_region_law (first
              | (refine step_appN rfl (.tmp 55) (.tmp 66) 85 rfl (w.heap.size + 1) 9 (.string ⟨#[]⟩) 1 16 Tryd.underlying85 Tryd.info9 rfl (by decide) _ L'.length _ rfl ((ho7.alloc _).alloc _) ⟨w5.heap.size + 1, 0, none⟩ 1 1 [.string _] rfl rfl (cells_drew (cells_at _ _ _ _ (by simp))) (by simp [Value.oneCell']) HL9.out (by decide) (by simp; clear w1 w2; omega) (by decide) ?_
                 intro v' w6 hown' hgrow hwh)
              | (refine step_appN rfl (.tmp 55) (.tmp 66) 85 rfl (w.heap.size + 1) 9 (.string ⟨#[]⟩) 1 16 Tryd.underlying85 Tryd.info9 rfl (by decide) _ L'.length _ rfl ((ho7.alloc _).alloc _) ⟨w5.heap.size + 1, 0, none⟩ 1 1 [.string _] rfl rfl (cells_at _ _ _ _ (by simp)) (by simp [Value.oneCell']) HL9.out (by decide) (by simp; clear w1 w2; omega) (by decide) ?_
                 intro v' w6 hown' hgrow hwh))
            all_goals
              have HS6 := hid (HS5.out.addWord ⟨y, t, x.set, 97 + b⟩ (by first | exact (((Below.refl _ w5).alloc (Nat.le_refl _) _).drew.alloc (by simp) _) | exact (((Below.refl _ w5).drew.alloc (Nat.le_refl _) _).alloc (by simp) _) | exact (((Below.refl _ w5).alloc (Nat.le_refl _) _).alloc (by simp) _).drew) hown' hgrow hwh)
              clear hown' hgrow hwh ho7 hcvA hcvB hcvC w1 w2
              go_wp2
              go_roundw
              case rel => exact ⟨b + 1, L' ++ [⟨y, t, x.set, 97 + b⟩], by go_num, by omega, by simp; omega, HX2, HG2, by simpa using HS6, HG1⟩
              case measure => simp [intOf]; omega
        · have hbe : b = M.length := by omega
          have hg1 : growF M x M.length 0 L = L' := by
            rw [HGR.out, hbe, Nat.sub_self]; rfl
          have hfin : reach M s = bfsF M (513 - (i + 1)) (i + 1) L' := by rw [HB.out, HST2.out, hg1]
          have HF := hid hfin
          clear hfin hg1 hcell2 hcell3
          go_wp2_with fail
          exact ⟨⟨i + 1, L', by go_num, by omega, HG', HS', HF⟩, by simp [intOf]; omega⟩
    · have hfin : reach M s = L := by rw [HB.out, bfsF_end (by omega)]
      have hsz := HS.out.size
      obtain ⟨a1, c1, rfl, -, -⟩ := ownsRow_vals HS.out.sets
      obtain ⟨a2, c2, rfl, -, -⟩ := ownsRow_vals HS.out.words
      rw [List.length_map] at HS ⊢
      rw [List.length_map] at HS ⊢
      have H1 := hid (own_base HS.out.sets (Nat.le_succ _))
      have H2 := hid (own_base HS.out.words (Nat.le_succ _))
      have H3 := hid HS.out.below
      have HF := hid hfin
      clear hfin
      go_wp2_with fail
      refine bodyPost_ret (results_tmp2 rfl _ _ _) rfl ?_
      rw [HF.out]
      exact ⟨a1, c1, a2, c2, rfl, H1, H2, H3.out⟩
end Go.Proofs.YthlgdakdjikjhaaDoor
/-
  Walks: the reference's smallest image, and the word that leads two states to one.
-/
namespace Go.Proofs.YthlgdakdjikjhaaDoor
open Go.RowKit Go.ChangeMaps
attribute [local go_sem] Oper.semAt_some

/-- How many states the image has that was reached as number j. -/
def szI (L : List Ent) (j : Nat) : Nat := sizeN ((L.map (·.set)).getD j 0)
theorem szI_at {L : List Ent} {j : Nat} {x : Ent} (h : L[j]? = some x) : szI L j = sizeN x.set := by
  unfold szI; rw [List.getD, List.getElem?_map, h]; rfl
/-- The first smallest one of the first i images. -/
structure MinTo (L : List Ent) (k i : Nat) : Prop where
  le : ∀ j, j < i → szI L k ≤ szI L j
  lt : ∀ j, j < k → szI L k < szI L j
theorem MinTo.start (L : List Ent) : MinTo L 0 0 := ⟨fun j h => by omega, fun j h => by omega⟩
theorem MinTo.new {L : List Ent} {k i : Nat} (h : MinTo L k i) (hs : szI L i < szI L k) : MinTo L i (i + 1) :=
  ⟨fun j hj => by
    rcases Nat.lt_or_ge j i with h1 | h1
    · have := h.le j h1; omega
    · have : j = i := by omega
      subst this; exact Nat.le_refl _, fun j hj => by have := h.le j hj; omega⟩
theorem MinTo.old {L : List Ent} {k i : Nat} (h : MinTo L k i) (hs : ¬ szI L i < szI L k) : MinTo L k (i + 1) :=
  ⟨fun j hj => by
    rcases Nat.lt_or_ge j i with h1 | h1
    · exact h.le j h1
    · have : j = i := by omega
      subst this; omega, h.lt⟩
/-- The first image with the fewest states. -/
def ShrE (M : List (List Nat)) (s : Nat) (x : Ent) : Prop := firstE M s (hasB (sizeN x.set)) = some x ∧ ∀ y ∈ reach M s, sizeN x.set ≤ sizeN y.set
theorem MinTo.shr {M : List (List Nat)} {s k : Nat} {x : Ent} (h : MinTo (reach M s) k (reach M s).length) (hx : (reach M s)[k]? = some x) : ShrE M s x := by
  have hk := (List.getElem?_eq_some_iff.1 hx).1
  have hx' := (List.getElem?_eq_some_iff.1 hx).2
  refine ⟨?_, fun y hy => ?_⟩
  · unfold firstE
    rw [List.find?_eq_some_iff_getElem]
    refine ⟨by simp [hasB], k, hk, hx', fun j hj => ?_⟩
    have h1 := h.lt j hj
    rw [szI_at hx, szI_at (List.getElem?_eq_getElem (show j < (reach M s).length by omega))] at h1
    simp only [hasB, Bool.not_eq_true', beq_eq_false_iff_ne]
    omega
  · obtain ⟨j, hj, rfl⟩ := List.getElem_of_mem hy
    have h1 := h.le j hj
    rw [szI_at hx, szI_at (List.getElem?_eq_getElem hj)] at h1
    exact h1

set_option maxRecDepth 100000 in
set_option maxHeartbeats 4000000 in
theorem refShrink_any (a : Option Addr) (c : Nat) (M : List (List Nat)) (s : Nat) (w : World) (hM : OkM M) (hr : RowsAt w a (intM M)) (hs : s < 2 ^ nst M) :
    Calls Tryd.prog 47 #[.slice a M.length c, .int .i64 s] w fun e w' => ∃ x, e = .returned (.tuple #[.int .i64 (sizeN x.set), .string (mkS x.word), .int .i64 x.set]) ∧ Hid (ShrE M s x) ∧ Below w.heap.size w w' := by
  have R := hid (refReached_any a c M s w hM hr hs)
  have hg := reach_good hM hs
  have hset : ∀ (i : Nat) (x : Ent), (reach M s)[i]? = some x → x.set < 512 := fun i x h => Nat.lt_of_lt_of_le (hg.lt x (List.mem_of_getElem? h)) (Nat.pow_le_pow_right (n := 2) (by omega) hM.n9)
  have hpos := hg.pos
  have hl5 := hg.len hM
  have HSET := hid hset
  have HSHR := hid (fun (k : Nat) (x : Ent) (h : MinTo (reach M s) k (reach M s).length) (hx : (reach M s)[k]? = some x) => h.shr hx)
  generalize reach M s = L at *
  clear hM hr hset hg hs
  go_enter Tryd.func47, Tryd.ntmps47
  go_wp2_with fail
  refine R.out.mono ?_
  rintro e w1 ⟨a1, c1, a2, c2, rfl, ho1, ho2, hb1⟩
  obtain ⟨g1, c1', he1, hgb1, hg1, hcell1⟩ := own_at ho1.out hpos
  obtain ⟨g2, c2', he2, hgb2, hg2, hcell2⟩ := own_at ho2.out hpos
  cases he1
  cases he2
  have HB1 := hid hb1
  have HC1 := hid hcell1
  have HC2 := hid hcell2
  clear ho1 ho2 hb1 hcell1 hcell2
  go_wp2_with fail
  go_loopw [9, 10] (fun kv iv W => ∃ k i : Nat, kv = .int .i64 k ∧ iv = .int .i64 i ∧ i ≤ L.length ∧ k < L.length ∧ Hid (MinTo L k i) ∧ Below w1.heap.size w1 W) (fun _ iv _ => L.length - (intOf iv).toNat)
  case atStart => exact ⟨0, 0, rfl, rfl, by omega, hpos, MinTo.start L, Below.refl _ _⟩
  case round =>
    obtain ⟨k, i, rfl, rfl, hi, hk, HM, hB⟩ := hrel
    obtain ⟨y, hy⟩ : ∃ y, L[k]? = some y := ⟨_, List.getElem?_eq_getElem hk⟩
    have hy5 := HSET.out k y hy
    have qy : ∀ W, Below w1.heap.size w1 W → W.cell? ⟨g1, k, none⟩ = some (.int .i64 (y.set : Int)) := fun W hb => (hb.cell (p := ⟨g1, k, none⟩) hg1).trans (HC1.out k (natV y.set) (by rw [List.getElem?_map, hy]; rfl))
    by_cases hlt : i < L.length
    · obtain ⟨x, hx⟩ : ∃ x, L[i]? = some x := ⟨_, List.getElem?_eq_getElem hlt⟩
      have hx5 := HSET.out i x hx
      have qx : ∀ W, Below w1.heap.size w1 W → W.cell? ⟨g1, i, none⟩ = some (.int .i64 (x.set : Int)) := fun W hb => (hb.cell (p := ⟨g1, i, none⟩) hg1).trans (HC1.out i (natV x.set) (by rw [List.getElem?_map, hx]; rfl))
      have C := hid (fun (z : Nat) (W : World) (hz : z < 512) (hW : Below w1.heap.size w1 W) => (refSize_any z W hz).mono (R' := fun e w' => e = .returned (.int .i64 (sizeN z)) ∧ Below w1.heap.size w1 w' ∧ w'.cell? ⟨g1, k, none⟩ = some (.int .i64 (y.set : Int)) ∧ w'.cell? ⟨g1, i, none⟩ = some (.int .i64 (x.set : Int)))
        fun e w' h => ⟨h.1, hW.trans (h.2.mono hW.size), qy _ (hW.trans (h.2.mono hW.size)), qx _ (hW.trans (h.2.mono hW.size))⟩)
      have q1 := qy wr hB
      have q2 := qx wr hB
      have e1 := szI_at hx
      have e2 := szI_at hy
      have HBW := hid hB
      have HE1 := hid e1
      have HE2 := hid e2
      clear qy qx hx hy e1 e2 hB
      go_wp2_with fail
      go_region_with (go_at_call 28; go_must (refine (C.out _ _ ?_ ?_).mono ?_); (first | exact hx5 | exact hy5); (first | exact hbz | exact hbz.drew | exact HBW.out | exact HBW.out.drew); rintro e wz ⟨rfl, hbz, qa, qb⟩)
      all_goals
        have HBZ := hid hbz
        clear hbz qa qb q1 q2 C
        by_cases hsz : sizeN x.set < sizeN y.set
        · have d1 : decide ((sizeN x.set : Int) < (sizeN y.set : Int)) = true := decide_eq_true (by omega)
          have hm := HM.out.new (by rw [HE1.out, HE2.out]; exact hsz)
          have HM2 := hid hm
          clear hm
          go_wp2_with fail
          exact ⟨⟨i, i + 1, rfl, by go_num, by omega, hlt, HM2, HBZ.out⟩, by simp [intOf]; omega⟩
        · have d1 : decide ((sizeN x.set : Int) < (sizeN y.set : Int)) = false := decide_eq_false (by omega)
          have hm := HM.out.old (by rw [HE1.out, HE2.out]; exact hsz)
          have HM2 := hid hm
          clear hm
          go_wp2_with fail
          exact ⟨⟨k, i + 1, rfl, by go_num, by omega, hk, HM2, HBZ.out⟩, by simp [intOf]; omega⟩
    · have hil : i = L.length := by omega
      subst hil
      have hsh := HSHR.out k y HM.out hy
      have C := hid (fun (W : World) (hW : Below w1.heap.size w1 W) => (refSize_any y.set W hy5).mono (R' := fun e w' => e = .returned (.int .i64 (sizeN y.set)) ∧ Below w1.heap.size w1 w' ∧ w'.cell? ⟨g1, k, none⟩ = some (.int .i64 (y.set : Int)) ∧ w'.cell? ⟨g2, k, none⟩ = some (.string (mkS y.word)))
        fun e w' h => ⟨h.1, hW.trans (h.2.mono hW.size), qy _ (hW.trans (h.2.mono hW.size)), ((hW.trans (h.2.mono hW.size)).cell (p := ⟨g2, k, none⟩) hg2).trans (HC2.out k (wordV y) (by rw [List.getElem?_map, hy]; rfl))⟩)
      have q1 := qy wr hB
      have q2 : wr.cell? ⟨g2, k, none⟩ = some (.string (mkS y.word)) := (hB.cell (p := ⟨g2, k, none⟩) hg2).trans (HC2.out k (wordV y) (by rw [List.getElem?_map, hy]; rfl))
      have HBW := hid hB
      have HSH := hid hsh
      clear qy hy hB hsh
      go_wp2_with fail
      go_region_with (go_at_call 28; go_must (refine (C.out _ ?_).mono ?_); (first | exact HBW.out | exact HBW.out.drew); rintro e wz ⟨rfl, hbz, qa, qb⟩)
      all_goals
        have HBZ := hid (HB1.out.trans ((show Below w1.heap.size w1 _ from hbz).mono HB1.out.size))
        clear hbz qa qb q1 q2 C
        go_wp2_with fail
        refine bodyPost_ret (results_tmp3 rfl _ _ _) rfl ?_
        exact ⟨y, rfl, HSH, HBZ.out⟩
end Go.Proofs.YthlgdakdjikjhaaDoor
/-
  Walks: Merge, the reference's and the program's.
-/
namespace Go.Proofs.YthlgdakdjikjhaaDoor
open Go.RowKit Go.ChangeMaps
attribute [local go_sem] Oper.semAt_some

/-- No image of a set that is not empty has no states. -/
theorem sizeN_pos : ∀ x : Nat, x < 512 → x ≠ 0 → 1 ≤ sizeN x := by decide +kernel
theorem ShrE.one {M : List (List Nat)} {s : Nat} {x : Ent} (hM : OkM M) (hs : s < 2 ^ nst M) (h0 : s ≠ 0) (h : ShrE M s x) :
    (firstE M s oneB).isSome = (sizeN x.set == 1) ∧ ∀ y, firstE M s oneB = some y → y = x := by
  by_cases h1 : sizeN x.set = 1
  · have h2 := h.1
    rw [h1] at h2
    have h3 : firstE M s oneB = some x := h2
    rw [h3, h1]
    exact ⟨rfl, fun y hy => (Option.some.inj hy).symm⟩
  · have hx := firstE_set hM hs h0 h.1
    have hp := sizeN_pos x.set hx.2.1 hx.2.2.1
    have h3 : firstE M s oneB = none := by
      unfold firstE
      rw [List.find?_eq_none]
      intro y hy
      have := h.2 y hy
      simp only [oneB, beq_iff_eq]
      omega
    rw [h3, beq_eq_false_iff_ne.2 h1]
    exact ⟨rfl, fun y hy => by cases hy⟩

theorem int_one (n : Nat) : ((n : Int) == 1) = (n == 1) := by rw [Bool.eq_iff_iff]; simp; omega

set_option maxRecDepth 100000 in
set_option maxHeartbeats 4000000 in
theorem refMerge_any (a : Option Addr) (c : Nat) (M : List (List Nat)) (p q : Nat) (w : World) (hM : OkM M) (hr : RowsAt w a (intM M)) (hp : p < nst M) (hq : q < nst M) :
    Calls Tryd.prog 25 #[.slice a M.length c, .int .i64 p, .int .i64 q] w fun e w' => ∃ wd : List UInt8, e = .returned (.tuple #[.string (mkS wd), .bool (firstE M (pairN p q) oneB).isSome]) ∧ Hid (∀ x, firstE M (pairN p q) oneB = some x → wd = x.word) ∧ Below w.heap.size w w' := by
  have hn9 := hM.n9
  have S := hid (fun (W : World) (hb : Below w.heap.size w W) => refShrink_any a c M (pairN p q) W hM (hr.below hb (Nat.le_refl _)) (pairN_lt hp hq))
  have HO := hid (fun (x : Ent) (h : ShrE M (pairN p q) x) => ShrE.one hM (pairN_lt hp hq) (pairN_ne p q) h)
  have d0 := pair_bits p q (by omega) (by omega)
  generalize pairN p q = s at *
  have hb0 := Below.refl w.heap.size w
  have HB0 := hid hb0
  clear hM hr hb0
  go_enter Tryd.func25, Tryd.ntmps25
  go_wp2_with fail
  go_region_with (go_at_call 47; go_must (refine (S.out _ ?_).mono ?_); (first | exact HB0.out | exact HB0.out.drew); rintro e wz ⟨x, rfl, hs, hbz⟩)
  all_goals
    have h1 := HO.out x hs.out
    have HBZ := hid (HB0.out.drew.trans ((show Below _ _ _ from hbz).mono HB0.out.size))
    have HW := hid h1
    clear hs h1 hbz
    go_wp2_with fail
    refine bodyPost_ret (results_tmp2 rfl _ _ _) rfl ?_
    refine ⟨x.word, ?_, fun y hy => by rw [HW.out.2 y hy], HBZ.out⟩
    rw [HW.out.1, ← int_one]
    rfl

def mergeV : Option Ent → Value
  | some x => .tuple #[.string (mkS x.word), .int .i64 0]
  | none => .tuple #[.string ⟨#[]⟩, .int .i64 6]

set_option maxRecDepth 100000 in
set_option maxHeartbeats 4000000 in
theorem Merge_yes (a : Option Addr) (c : Nat) (M : List (List Nat)) (p q : Nat) (w : World) (hM : OkM M) (hr : RowsAt w a (intM M)) (hp : p < nst M) (hq : q < nst M) :
    Calls Tryd.prog 23 #[.slice a M.length c, .int .i64 p, .int .i64 q] w fun e w' => e = .returned (mergeV (firstE M (pairN p q) oneB)) ∧ Below w.heap.size w w' := by
  have hn9 := hM.n9
  have h1 := hM.b1
  have HW := hid (isM_yes a c M w hM hr)
  obtain ⟨g, o, b1, c1, rfl, hg, q1, -⟩ := row_at hM hr 0 (by omega)
  rw [Nat.add_zero] at q1
  have S := hid (fun (W : World) (hb : Below w.heap.size w W) => search_one M (pairN p q) (some ⟨g, o, none⟩) c W hM (pairN_lt hp hq) (pairN_ne p q) (hr.below hb (Nat.le_refl _)))
  have W1 := fun W => within_any (p : Int) 0 ((nst M : Int) - 1) W
  have W2 := fun W => within_any (q : Int) 0 ((nst M : Int) - 1) W
  rw [show (decide ((0 : Int) ≤ (p : Int)) && decide ((p : Int) ≤ (nst M : Int) - 1)) = true by simp; omega] at W1
  rw [show (decide ((0 : Int) ≤ (q : Int)) && decide ((q : Int) ≤ (nst M : Int) - 1)) = true by simp; omega] at W2
  have W1 := hid W1
  have W2 := hid W2
  have d0 := pair_bits p q (by omega) (by omega)
  generalize pairN p q = s at *
  clear hM hr
  cases hf : firstE M s oneB
  all_goals
    rw [hf] at S
    simp only [srchV] at S
    clear hf
    go_enter Tryd.func23, Tryd.ntmps23
    go_wp2_with fail
    refine HW.out.mono ?_
    rintro e w1 ⟨rfl, hb1⟩
    have q2 := (hb1.cell (p := ⟨g, o, none⟩) hg).trans q1
    have HB1 := hid hb1
    clear hb1
    go_wp2_with fail
    refine (W1.out w1).mono ?_
    rintro e w2 ⟨rfl, rfl⟩
    go_wp2_with fail
    refine (W2.out w1).mono ?_
    rintro e w2 ⟨rfl, rfl⟩
    go_wp2_with fail
    go_region_with (go_at_call 52; go_must (refine (S.out _ ?_).mono ?_); (first | exact HB1.out | exact HB1.out.drew); rintro e wz ⟨rfl, hbz⟩)
    all_goals
      have HBZ := hid (HB1.out.drew.trans ((show Below _ _ _ from hbz).mono HB1.out.size))
      clear hbz
      go_wp2_with fail
      refine bodyPost_ret (results_tmp2 rfl _ _ _) rfl ?_
      exact ⟨rfl, HBZ.out⟩

set_option maxRecDepth 100000 in
set_option maxHeartbeats 4000000 in
theorem Merge_bad (a : Option Addr) (c : Nat) (M : List (List Nat)) (p q : Int) (w : World) (hM : OkM M) (hr : RowsAt w a (intM M)) (h : p < 0 ∨ (nst M : Int) ≤ p ∨ q < 0 ∨ (nst M : Int) ≤ q) :
    Calls Tryd.prog 23 #[.slice a M.length c, .int .i64 p, .int .i64 q] w fun e w' => e = .returned (.tuple #[.string ⟨#[]⟩, .int .i64 2]) ∧ Below w.heap.size w w' := by
  have hn9 := hM.n9
  have h1 := hM.b1
  have HW := hid (isM_yes a c M w hM hr)
  obtain ⟨g, o, b1, c1, rfl, hg, q1, -⟩ := row_at hM hr 0 (by omega)
  rw [Nat.add_zero] at q1
  have W1 := fun W => within_any p 0 ((nst M : Int) - 1) W
  have W2 := fun W => within_any q 0 ((nst M : Int) - 1) W
  generalize nst M = n at *
  clear hM hr
  by_cases hp : 0 ≤ p ∧ p ≤ (n : Int) - 1
  · rw [show (decide ((0 : Int) ≤ p) && decide (p ≤ (n : Int) - 1)) = true by simp; omega] at W1
    rw [show (decide ((0 : Int) ≤ q) && decide (q ≤ (n : Int) - 1)) = false by simp; omega] at W2
    have W1 := hid W1
    have W2 := hid W2
    clear hp h
    go_enter Tryd.func23, Tryd.ntmps23
    go_wp2_with fail
    refine HW.out.mono ?_
    rintro e w1 ⟨rfl, hb1⟩
    have q2 := (hb1.cell (p := ⟨g, o, none⟩) hg).trans q1
    go_wp2_with fail
    refine (W1.out w1).mono ?_
    rintro e w2 ⟨rfl, rfl⟩
    go_wp2_with fail
    refine (W2.out w1).mono ?_
    rintro e w2 ⟨rfl, rfl⟩
    go_wp2_with fail
    refine bodyPost_ret (results_tmp2 rfl _ _ _) rfl ?_
    exact ⟨rfl, hb1⟩
  · rw [show (decide ((0 : Int) ≤ p) && decide (p ≤ (n : Int) - 1)) = false by simp; omega] at W1
    have W1 := hid W1
    clear hp h
    go_enter Tryd.func23, Tryd.ntmps23
    go_wp2_with fail
    refine HW.out.mono ?_
    rintro e w1 ⟨rfl, hb1⟩
    have q2 := (hb1.cell (p := ⟨g, o, none⟩) hg).trans q1
    go_wp2_with fail
    refine (W1.out w1).mono ?_
    rintro e w2 ⟨rfl, rfl⟩
    go_wp2_with fail
    refine bodyPost_ret (results_tmp2 rfl _ _ _) rfl ?_
    exact ⟨rfl, hb1⟩

set_option maxHeartbeats 1000000 in
theorem Merge_no (a : Option Addr) (c : Nat) (X : List (List Int)) (p q : Int) (w : World) (hr : RowsAt w a X) (hl : X.length ≤ 1000) (hl2 : ∀ r ∈ X, r.length ≤ 1000) (hm : machineB X = false) :
    Calls Tryd.prog 23 #[.slice a X.length c, .int .i64 p, .int .i64 q] w fun e w' => e = .returned (.tuple #[.string ⟨#[]⟩, .int .i64 2]) ∧ Below w.heap.size w w' := by
  have HW := hid (isMachine_any a c X w hr hl hl2)
  rw [hm] at HW
  clear hm hr hl2
  go_enter Tryd.func23, Tryd.ntmps23
  go_wp2_with fail
  refine HW.out.mono ?_
  rintro e w1 ⟨rfl, hb1⟩
  go_wp2_with fail
  refine bodyPost_ret (results_tmp2 rfl _ _ _) rfl ?_
  exact ⟨rfl, hb1⟩
end Go.Proofs.YthlgdakdjikjhaaDoor
