/-
  Walks: slices.Reverse over bytes.
-/
import Derived.Test.YthlgdakdjikjhaaDoorBytes
import Derived.Test.YthlgdakdjikjhaaDoorC
namespace Go.Proofs.YthlgdakdjikjhaaDoor
open Go.RowKit
attribute [local go_sem] Oper.semAt_some

/-- i letters from both ends have changed their places. -/
def RevAt (l cur : List UInt8) (i : Nat) : Prop := cur.length = l.length ∧ ∀ k, k < l.length → cur[k]? = if k < i ∨ l.length < k + 1 + i then l[l.length - 1 - k]? else l[k]?
theorem RevAt.next {l cur : List UInt8} {i : Nat} {x y : UInt8} (h : RevAt l cur i) (hi : i + (i + 1) < l.length) (hx : cur[i]? = some x) (hy : cur[l.length - 1 - i]? = some y) : RevAt l ((cur.set i y).set (l.length - 1 - i) x) (i + 1) := by
  obtain ⟨h1, h2⟩ := h
  have hxl := h2 i (by omega)
  rw [if_neg (by omega), hx] at hxl
  have hyl := h2 (l.length - 1 - i) (by omega)
  rw [if_neg (by omega), hy] at hyl
  refine ⟨by simp [h1], fun k hk => ?_⟩
  rw [List.getElem?_set, List.length_set]
  by_cases e1 : l.length - 1 - i = k
  · rw [if_pos e1, if_pos (by omega), if_pos (by omega), ← e1, show l.length - 1 - (l.length - 1 - i) = i by omega]; exact hxl
  · rw [if_neg e1, List.getElem?_set]
    by_cases e2 : i = k
    · subst e2
      rw [if_pos rfl, if_pos (by omega), if_pos (by omega)]; exact hyl
    · rw [if_neg e2, h2 k hk]
      by_cases h3 : k < i ∨ l.length < k + 1 + i
      · rw [if_pos h3, if_pos (by omega)]
      · rw [if_neg h3, if_neg (by omega)]
theorem RevAt.done {l cur : List UInt8} {i : Nat} (h : RevAt l cur i) (hi : l.length ≤ i + (i + 1)) : cur = l.reverse := by
  obtain ⟨h1, h2⟩ := h
  apply List.ext_getElem?
  intro k
  rcases Nat.lt_or_ge k l.length with hk | hk
  · rw [h2 k hk, List.getElem?_reverse hk]
    split
    · rfl
    · rw [show l.length - 1 - k = k by omega]
  · rw [List.getElem?_eq_none (by omega), List.getElem?_eq_none (by simp; omega)]

set_option maxRecDepth 20000 in
set_option maxHeartbeats 4000000 in
theorem reverse_any (a : Option Addr) (c base : Nat) (l : List UInt8) (w : World) (hl : l.length ≤ 1000000) (hown : w.ownsRow base 5 1 (.slice a l.length c) l.length (l.map u8v)) :
    Calls Tryd.prog 78 #[.slice a l.length c] w fun e w' => e = .returned (.tuple #[]) ∧ w'.ownsRow base 5 1 (.slice a l.length c) l.length (l.reverse.map u8v) ∧ Below base w w' := by
  by_cases h0 : l.length = 0
  · have : l = [] := List.eq_nil_of_length_eq_zero h0
    subst this
    have HO := hid hown
    clear hown
    go_enter Tryd.func78, Tryd.ntmps78
    go_wp2_with fail
    go_loopw [2, 3] (fun i j W => i = .int .i64 0 ∧ j = .int .i64 (-1) ∧ W = w) (fun _ _ _ => 0)
    case atStart => exact ⟨rfl, rfl, rfl⟩
    case round =>
      obtain ⟨rfl, rfl, rfl⟩ := hrel
      go_wp2_with fail
      exact bodyPost_end (results_none rfl _ _ _) rfl ⟨rfl, HO.out, Below.refl _ _⟩
  · obtain ⟨g, c', he, hgb, hg, -⟩ : ∃ g c', Value.slice a l.length c = .slice (some ⟨g, 0, none⟩) l.length c' ∧ base ≤ g ∧ g < w.heap.size ∧ True := by
      rcases hown.2 with ⟨_, h⟩ | ⟨g, cap, cur, hv, hb, hg, _⟩
      · omega
      · exact ⟨g, cap, hv, hb, lt_of_block hg, trivial⟩
    cases he
    have HO := hid hown
    clear hown
    go_enter Tryd.func78, Tryd.ntmps78
    go_wp2_with fail
    go_loopw [2, 3] (fun iv jv W => ∃ (i : Nat) (cur : List UInt8), iv = .int .i64 i ∧ jv = .int .i64 ((l.length : Int) - 1 - i) ∧ i ≤ l.length ∧ cur.length = l.length ∧ W.ownsRow base 5 1 (.slice (some ⟨g, 0, none⟩) l.length c) l.length (cur.map u8v) ∧ Below base w W ∧ Hid (RevAt l cur i)) (fun iv _ _ => l.length - (intOf iv).toNat)
    case atStart =>
      refine ⟨0, l, rfl, by go_num, by omega, rfl, HO.out, Below.refl _ _, rfl, fun k hk => ?_⟩
      rw [if_neg (by omega)]
    case round =>
      obtain ⟨i, cur, rfl, rfl, hi, hcl, hown, hB, HR⟩ := hrel
      by_cases hlt : i + (i + 1) < l.length
      · obtain ⟨x, hx⟩ : ∃ x, cur[i]? = some x := ⟨_, List.getElem?_eq_getElem (by omega)⟩
        obtain ⟨y, hy⟩ : ∃ y, cur[l.length - 1 - i]? = some y := ⟨_, List.getElem?_eq_getElem (by omega)⟩
        have q1 : wr.cell? ⟨g, i, none⟩ = some (.int .u8 (x.toNat : Int)) := by
          rw [hown.cellAt i (by omega), List.getElem?_map, hx]; rfl
        have q2 : wr.cell? ⟨g, l.length - 1 - i, none⟩ = some (.int .u8 (y.toNat : Int)) := by
          rw [hown.cellAt (l.length - 1 - i) (by omega), List.getElem?_map, hy]; rfl
        have f1 := hown.frozenAt i
        have f2 := hown.frozenAt (l.length - 1 - i)
        have hst := (((hown.stored i (u8v y)).1).stored (l.length - 1 - i) (u8v x)).1
        have hst2 := (((hown.stored (l.length - 1 - i) (u8v x)).1).stored i (u8v y)).1
        have HST := hid hst
        have HST2 := hid hst2
        have HRN := hid (HR.out.next hlt hx hy)
        obtain ⟨j, hj⟩ : ∃ j, j = l.length - 1 - i := ⟨_, rfl⟩
        have hji : (l.length : Int) - 1 - (i : Int) = (j : Int) := by omega
        rw [← hj] at q2 f2 HST HST2 HRN
        rw [hji]
        have hjl : j < l.length := by omega
        have hij : i ≠ j := by omega
        have d1 : decide ((i : Int) < (j : Int)) = true := decide_eq_true (by omega)
        have d2 : decide (i < j) = true := decide_eq_true (by omega)
        have HOW := hid hown
        have HBB := hid hB
        have HJ := hid hj
        clear hst hst2 hx hy hown hB hj hji
        go_wp2_with fail
        go_region
        have hB2 : Below base w (((wr.setCell ⟨g, i, none⟩ (.int .u8 (y.toNat : Int))).setCell ⟨g, j, none⟩ (.int .u8 (x.toNat : Int))).drew) := ((HBB.out.setCell hgb _).setCell hgb _).drew
        have HB2 := hid hB2
        clear hB2 q1 q2 f1 f2
        go_wp2_with fail
        have hj := HJ.out
        refine ⟨⟨i + 1, (cur.set i y).set j x, by go_num, ?_, by omega, by simp [hcl], ?_, HB2.out, HRN⟩, by simp [intOf]; omega⟩
        · congr 1; omega
        · rw [List.map_set, List.map_set]; exact HST.out
      · have hfin := HR.out.done (by omega)
        have d1 : decide ((i : Int) < (l.length : Int) - 1 - i) = false := decide_eq_false (by omega)
        have hO : wr.ownsRow base 5 1 (.slice (some ⟨g, 0, none⟩) l.length c) l.length (l.reverse.map u8v) := by rw [← hfin]; exact hown
        have HO2 := hid hO
        have HB := hid hB
        clear hfin hown hB hO
        go_wp2_with fail
        exact bodyPost_end (results_none rfl _ _ _) rfl ⟨rfl, HO2.out, HB.out⟩
end Go.Proofs.YthlgdakdjikjhaaDoor
