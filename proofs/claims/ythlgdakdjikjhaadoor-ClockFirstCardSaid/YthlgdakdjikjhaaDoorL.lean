/-
  Walks: lists and tables are equal.
-/
import Derived.Test.YthlgdakdjikjhaaDoorK
namespace Go.Proofs.YthlgdakdjikjhaaDoor
open Go.RowKit Go.ChangeMaps
attribute [local go_sem] Oper.semAt_some

theorem take_eq_succ {α : Type} {l m : List α} {k : Nat} {x y : α} (h : l.take k = m.take k) (hx : l[k]? = some x) (hy : m[k]? = some y) : (l.take (k + 1) = m.take (k + 1) ↔ x = y) := by
  rw [List.take_add_one, List.take_add_one, hx, hy, h]
  simp
theorem ne_at {α : Type} {l m : List α} {k : Nat} {x y : α} (hx : l[k]? = some x) (hy : m[k]? = some y) (hne : x ≠ y) : l ≠ m := by
  intro e; subst e; rw [hx] at hy; exact hne (Option.some.inj hy)

set_option maxHeartbeats 1000000 in
theorem ints_any (a b : Option Addr) (ca cb : Nat) (l m : List Int) (w : World) (ha : Ints w a l) (hb : Ints w b m) (hl : l.length ≤ 1000000) :
    Calls Tryd.prog 36 #[.slice a l.length ca, .slice b m.length cb] w fun e w' => e = .returned (.bool (decide (l = m))) ∧ Below w.heap.size w w' := by
  by_cases hlen : l.length = m.length
  · have d0 : ((l.length : Int) != (m.length : Int)) = false := by simp [hlen]
    have HA := hid ha
    have HB := hid hb
    have HLEN := hid hlen
    have hml : (m.length : Int) = (l.length : Int) := by omega
    rw [show Value.slice b m.length cb = .slice b l.length cb by rw [hlen]] 
    rw [hml] at d0
    clear ha hb hlen hml
    go_enter Tryd.func36, Tryd.ntmps36
    go_wp2_with fail
    go_loopw [5] (fun iv W => ∃ k : Nat, iv = .int .i64 k ∧ k ≤ l.length ∧ Below w.heap.size w W ∧ Hid (l.take k = m.take k)) (fun iv _ => l.length - (intOf iv).toNat)
    case atStart => exact ⟨0, rfl, by omega, Below.refl _ _, by rw [Hid]; rfl⟩
    case round =>
      obtain ⟨k, rfl, hk, hBw, HT⟩ := hrel
      by_cases hlt : k < l.length
      · obtain ⟨x, hx⟩ : ∃ x, l[k]? = some x := ⟨_, List.getElem?_eq_getElem hlt⟩
        obtain ⟨y, hy⟩ : ∃ y, m[k]? = some y := ⟨_, List.getElem?_eq_getElem (by rw [← HLEN.out]; exact hlt)⟩
        obtain ⟨g1, o1, rfl, hg1, hc1⟩ := HA.out.at (by omega)
        obtain ⟨g2, o2, rfl, hg2, hc2⟩ := HB.out.at (by rw [← HLEN.out]; omega)
        have q1 := (hBw.cell (p := ⟨g1, o1 + k, none⟩) hg1).trans (hc1 k x hx)
        have q2 := (hBw.cell (p := ⟨g2, o2 + k, none⟩) hg2).trans (hc2 k y hy)
        have hs := take_eq_succ HT.out hx hy
        by_cases hxy : x = y
        · have HN := hid (hs.2 hxy)
          subst hxy
          have d1 : (x != x) = false := by simp
          clear hx hy hc1 hc2 hs
          go_wp2_with fail
          go_quiet (fail)
          go_wp2_with fail
          exact ⟨⟨k + 1, by go_num, by omega, below_drewN hBw nq, HN⟩, by simp [intOf]; omega⟩
        · have hne : decide (l = m) = false := decide_eq_false (ne_at hx hy hxy)
          have HN := hid hne
          have d1 : (x != y) = true := by simp [hxy]
          clear hx hy hc1 hc2 hs hne hxy
          go_wp2_with fail
          go_quiet (fail)
          go_wp2_with fail
          go_ret
          exact ⟨ret_bool HN.out.symm, below_drewN hBw nq⟩
      · have heq : decide (l = m) = true := by
          have h1 := HT.out
          rw [List.take_of_length_le (by omega), List.take_of_length_le (by rw [← HLEN.out]; omega)] at h1
          exact decide_eq_true h1
        have HN := hid heq
        clear heq
        go_wp2_with fail
        go_ret
        exact ⟨ret_bool HN.out.symm, hBw⟩
  · have d0 : ((l.length : Int) != (m.length : Int)) = true := by simp; omega
    have hne : decide (l = m) = false := decide_eq_false fun e => hlen (by rw [e])
    have HN := hid hne
    clear hne ha hb
    go_enter Tryd.func36, Tryd.ntmps36
    go_wp2_with fail
    go_ret
    exact ⟨ret_bool HN.out.symm, Below.refl _ _⟩

set_option maxHeartbeats 2000000 in
theorem tables_any (a b : Option Addr) (ca cb : Nat) (X Y : List (List Int)) (w : World) (ha : RowsAt w a X) (hb : RowsAt w b Y) (hl : X.length ≤ 1000000) (hl2 : ∀ r ∈ X, r.length ≤ 1000000) :
    Calls Tryd.prog 18 #[.slice a X.length ca, .slice b Y.length cb] w fun e w' => e = .returned (.bool (decide (X = Y))) ∧ Below w.heap.size w w' := by
  by_cases hlen : X.length = Y.length
  · have d0 : ((X.length : Int) != (X.length : Int)) = false := by simp
    have HA := hid ha
    have HB := hid hb
    have HLEN := hid hlen
    have HL2 := hid hl2
    rw [show Value.slice b Y.length cb = .slice b X.length cb by rw [hlen]]
    clear ha hb hlen hl2
    go_enter Tryd.func18, Tryd.ntmps18
    go_wp2_with fail
    go_loopw [5] (fun iv W => ∃ k : Nat, iv = .int .i64 k ∧ k ≤ X.length ∧ Below w.heap.size w W ∧ Hid (X.take k = Y.take k)) (fun iv _ => X.length - (intOf iv).toNat)
    case atStart => exact ⟨0, rfl, by omega, Below.refl _ _, by rw [Hid]; rfl⟩
    case round =>
      obtain ⟨k, rfl, hk, hBw, HT⟩ := hrel
      by_cases hlt : k < X.length
      · obtain ⟨x, hx⟩ : ∃ x, X[k]? = some x := ⟨_, List.getElem?_eq_getElem hlt⟩
        obtain ⟨y, hy⟩ : ∃ y, Y[k]? = some y := ⟨_, List.getElem?_eq_getElem (by rw [← HLEN.out]; exact hlt)⟩
        obtain ⟨g1, o1, b1, c1, rfl, hg1, p1, i1, -, -⟩ := HA.out.at k x hx
        obtain ⟨g2, o2, b2, c2, rfl, hg2, p2, i2, -, -⟩ := HB.out.at k y hy
        have q1 := (hBw.cell (p := ⟨g1, o1 + k, none⟩) hg1).trans p1
        have q2 := (hBw.cell (p := ⟨g2, o2 + k, none⟩) hg2).trans p2
        have hbd := hBw.drew
        have C := ints_any b1 b2 c1 c2 x y wr.drew (i1.below hbd (Nat.le_refl _)) (i2.below hbd (Nat.le_refl _)) (HL2.out x (List.mem_of_getElem? hx))
        have hs := take_eq_succ HT.out hx hy
        have HBD := hid hbd
        by_cases hxy : x = y
        · have HN := hid (hs.2 hxy)
          rw [decide_eq_true hxy] at C
          have C := hid C
          clear hx hy hs p1 p2 i1 i2 hbd hxy
          go_wp2_with fail
          go_region_with (go_at_call 36; refine C.out.mono ?_; rintro e w1 ⟨rfl, hb1⟩)
          all_goals
            have h1 := HBD.out.trans (hb1.mono HBD.out.size)
            clear hb1
            go_wp2_with fail
            exact ⟨⟨k + 1, by go_num, by omega, h1, HN⟩, by simp [intOf]; omega⟩
        · have hne : decide (X = Y) = false := decide_eq_false (ne_at hx hy hxy)
          have HN := hid hne
          rw [decide_eq_false hxy] at C
          have C := hid C
          clear hx hy hs p1 p2 i1 i2 hbd hxy hne
          go_wp2_with fail
          go_region_with (go_at_call 36; refine C.out.mono ?_; rintro e w1 ⟨rfl, hb1⟩)
          all_goals
            have h1 := HBD.out.trans (hb1.mono HBD.out.size)
            clear hb1
            go_wp2_with fail
            go_ret
            exact ⟨ret_bool HN.out.symm, h1⟩
      · have heq : decide (X = Y) = true := by
          have h1 := HT.out
          rw [List.take_of_length_le (by omega), List.take_of_length_le (by rw [← HLEN.out]; omega)] at h1
          exact decide_eq_true h1
        have HN := hid heq
        clear heq
        go_wp2_with fail
        go_ret
        exact ⟨ret_bool HN.out.symm, hBw⟩
  · have d0 : ((X.length : Int) != (Y.length : Int)) = true := by simp; omega
    have hne : decide (X = Y) = false := decide_eq_false fun e => hlen (by rw [e])
    have HN := hid hne
    clear hne ha hb hl2
    go_enter Tryd.func18, Tryd.ntmps18
    go_wp2_with fail
    go_ret
    exact ⟨ret_bool HN.out.symm, Below.refl _ _⟩
end Go.Proofs.YthlgdakdjikjhaaDoor
