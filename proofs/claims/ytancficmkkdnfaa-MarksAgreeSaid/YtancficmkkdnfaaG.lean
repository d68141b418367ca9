/-
  Walks: images.
-/
import Derived.Test.YtancficmkkdnfaaF
import Derived.Test.YtancficmkkdnfaaShelf
namespace Go.Proofs.Ytancficmkkdnfaa
open Go.RowKit

theorem WriteString_any (B b : Nat) (bs : List Value) (s : ByteArray) (w : World) (h : Lib.IsBuilder 92 5 B b bs w) (hlen : bs.length + s.size ≤ 140737488355328) (hBw : B ≤ w.heap.size) :
    Calls Try.prog 72 #[.pointer (some ⟨b, 0, none⟩), .string s] w fun e w' => e = .returned (.tuple #[.int .i64 s.size, .nilIface]) ∧ (Lib.BuilderAt 92 5 B b (.pointer (some ⟨b, 0, none⟩)) (bs ++ Lib.strCells s) w' ∧ Below B w w') :=
  Any.Builder_WriteString (P := Try.prog) (ρ := Try.lays156_ren) { Try.lays156 with } Try.Builder_Extra_156 B b bs s w h hlen hBw

/-- The image of a word. -/
def imgL (m : List (List UInt8)) (c : UInt8) : List UInt8 := m.getD (c.toNat - 97) []
def imgW (m : List (List UInt8)) (l : List UInt8) : List UInt8 := l.flatMap (imgL m)
def strV (l : List UInt8) : Value := .string (mkS l)
def Strs (w : World) (a : Option Addr) (m : List (List UInt8)) : Prop := Vals w a (m.map strV)
theorem Strs.at {w : World} {a : Option Addr} {m : List (List UInt8)} (h : Strs w a m) (hl : 0 < m.length) :
    ∃ g o, a = some ⟨g, o, none⟩ ∧ g < w.heap.size ∧ ∀ i x, m[i]? = some x → w.cell? ⟨g, o + i, none⟩ = some (.string (mkS x)) := by
  rcases h with h | ⟨g, o, ha, hg, hc⟩
  · have : m = [] := by simpa using h
    subst this; exact absurd hl (by simp)
  · exact ⟨g, o, ha, hg, fun i x hx => hc i _ (by rw [List.getElem?_map, hx]; rfl)⟩
theorem Strs.below {w w' : World} {a : Option Addr} {m : List (List UInt8)} {B : Nat} (h : Strs w a m) (hb : Below B w w') (hB : w.heap.size ≤ B) : Strs w' a m := Vals.below h hb hB

theorem map_len {m : List (List UInt8)} (h : mapB m = true) : m.length = 3 ∧ ∀ i, i < 3 → ∃ x, m[i]? = some x ∧ m.getD i [] = x ∧ 1 ≤ x.length ∧ x.length ≤ 12 ∧ overB 4 x = true := by
  rw [mapB, Bool.and_eq_true] at h
  have h2 : m.length = 3 := by simpa using h.2
  refine ⟨h2, fun i hi => ⟨m[i], List.getElem?_eq_getElem (by omega), by simp [List.getD, List.getElem?_eq_getElem (show i < m.length by omega)], ?_⟩⟩
  have := List.all_eq_true.1 h.1 m[i] (List.getElem_mem _)
  rw [imgB, Bool.and_eq_true, Bool.and_eq_true] at this
  exact ⟨by simpa using this.1.1, by simpa using this.1.2, this.2⟩
theorem imgW_cons (m : List (List UInt8)) (c : UInt8) (l : List UInt8) : imgW m (c :: l) = imgL m c ++ imgW m l := by simp [imgW]
theorem imgW_append (m : List (List UInt8)) (a b : List UInt8) : imgW m (a ++ b) = imgW m a ++ imgW m b := by simp [imgW]
theorem imgL_len {m : List (List UInt8)} (h : mapB m = true) {c : UInt8} (hc : 97 ≤ c.toNat ∧ c.toNat < 100) : 1 ≤ (imgL m c).length ∧ (imgL m c).length ≤ 12 := by
  obtain ⟨x, _, h2, h3, h4, _⟩ := (map_len h).2 (c.toNat - 97) (by omega)
  unfold imgL; rw [h2]; exact ⟨h3, h4⟩
theorem imgW_len {m : List (List UInt8)} (h : mapB m = true) {l : List UInt8} (hl : overB 3 l = true) : (imgW m l).length ≤ 12 * l.length := by
  induction l with
  | nil => simp [imgW]
  | cons c l ih =>
    have h1 := imgL_len h (overB_mem hl (List.mem_cons_self ..))
    have h2 := ih (by rw [overB_cons, Bool.and_eq_true] at hl; exact hl.2)
    rw [imgW_cons, List.length_append, List.length_cons]; omega

set_option maxHeartbeats 2000000 in
theorem image_any (a : Option Addr) (c : Nat) (m : List (List UInt8)) (s : ByteArray) (w : World) (hm : Strs w a m) (hmap : mapB m = true) (hs : s.size ≤ 100000) (hl : overB 3 s.data.toList = true) :
    Calls Try.prog 61 #[.slice a 3 c, .string s] w fun e w' => e = .returned (.string (mkS (imgW m s.data.toList))) ∧ Below w.heap.size w w' := by
  obtain ⟨g, o, rfl, hg, hcell⟩ := hm.at (by rw [(map_len hmap).1]; omega)
  have HL := hid hl
  have HM := hid hmap
  clear hm hmap hl
  go_enter Try.func61, Try.ntmps61
  go_wp2_with fail
  go_loopw [9] (fun i wr => ∃ (k : Nat) (acc : List UInt8), k ≤ s.size ∧ i = .int .i64 k ∧ Below w.heap.size w wr ∧ Lib.IsBuilder 92 5 w.heap.size w.heap.size (Lib.byteCells acc) wr ∧ acc.length ≤ 12 * k ∧ Hid (imgW m s.data.toList = acc ++ imgW m (s.data.toList.drop k))) (fun i _ => s.size - (intOf i).toNat)
  case atStart => exact ⟨0, [], by omega, rfl, (Below.refl _ w).alloc (Nat.le_refl _) _, Lib.fresh_isBuilder 92 5 w, by simp, rfl⟩
  case round =>
    obtain ⟨k, acc, hk, rfl, hB, hI, hal, HW⟩ := hrel
    by_cases hlt : k < s.size
    · have hlet := overB_mem HL.out (byte_mem s k hlt)
      obtain ⟨x, hx1, hx2, hx3, hx4, -⟩ := (map_len HM.out).2 (s[k].toNat - 97) (by omega)
      have q1 : wr.cell? ⟨g, o + (s[k].toNat - 97), none⟩ = some (.string (mkS x)) := (hB.cell (p := ⟨g, o + (s[k].toNat - 97), none⟩) hg).trans (hcell _ _ hx1)
      have H2 := hid (bytes_drop s k hlt)
      have hix : IntKind.u8.wrap ((s[k].toNat : Int) - 97) = ((s[k].toNat - 97 : Nat) : Int) := by
        rw [show ((s[k].toNat : Int) - 97) = ((s[k].toNat - 97 : Nat) : Int) by omega]
        exact IntWalk.u8_in _ (by omega)
      have hI3 : s[k].toNat - 97 < 3 := by omega
      have HX := hid (show imgL m s[k] = x from hx2)
      clear hx1 hx2
      go_wp2_with fail
      refine (WriteString_any _ _ _ (mkS x) wr hI (by rw [Lib.byteCells_length, mkS_size]; omega) hB.size).mono ?_
      rintro e w1 ⟨rfl, hI1, hb1⟩
      rw [show Lib.byteCells acc ++ Lib.strCells (mkS x) = Lib.byteCells (acc ++ x) by rw [Lib.byteCells, Lib.byteCells, List.map_append]; rfl] at hI1
      go_wp2_with fail
      refine ⟨⟨k + 1, acc ++ x, by omega, by go_num, hB.trans hb1, .inr hI1, by rw [List.length_append]; omega, ?_⟩, by simp [intOf]; omega⟩
      rw [Hid, HW.out, H2.out, imgW_cons, HX.out, List.append_assoc]
    · have hfin : imgW m s.data.toList = acc := by rw [HW.out, bytes_drop_end s k (by omega)]; simp [imgW]
      have HF := hid hfin
      clear hfin
      go_wp2_with fail
      refine (Try.Builder_String_any _ _ acc wr hI hB.size).mono ?_
      rintro e w1 ⟨rfl, hb1⟩
      go_wp2_with fail
      go_ret
      exact ⟨ret_str (by rw [HF.out]; rfl), hB.trans hb1⟩

set_option maxHeartbeats 1000000 in
theorem isMap_any (a : Option Addr) (c : Nat) (m : List (List UInt8)) (w : World) (hm : Strs w a m) (hs : m.length ≤ 1000000) (hs2 : ∀ x ∈ m, x.length ≤ 1000000) :
    Calls Try.prog 59 #[.slice a m.length c] w fun e w' => e = .returned (.bool (mapB m)) ∧ Below w.heap.size w w' := by
  by_cases h3 : m.length = 3
  · have hne : (((m.length : Nat) : Int) != 3) = false := by simp; omega
    have hfin : mapB m = m.all imgB := by rw [mapB, h3]; simp
    have HF := hid hfin
    obtain ⟨g, o, rfl, hg, hcell⟩ := hm.at (by omega)
    have H3 := hid h3
    rw [h3]
    clear hm hfin h3
    go_enter Try.func59, Try.ntmps59
    go_wp2_with fail
    go_loopw [10] (fun i wr => ∃ k : Nat, k ≤ 3 ∧ i = .int .i64 k ∧ Below w.heap.size w wr ∧ Hid (m.all imgB = (m.drop k).all imgB)) (fun i _ => 3 - (intOf i).toNat)
    case atStart => exact ⟨0, by omega, rfl, Below.refl _ _, rfl⟩
    case round =>
      obtain ⟨k, hk, rfl, hB, HK⟩ := hrel
      by_cases hlt : k < 3
      · obtain ⟨x, hx1, hx2⟩ := list_drop_cons m k (by have := H3.out; omega)
        have q1 : wr.cell? ⟨g, o + k, none⟩ = some (.string (mkS x)) := (hB.cell (p := ⟨g, o + k, none⟩) hg).trans (hcell _ _ hx1)
        have hxl := hs2 x (List.mem_of_getElem? hx1)
        have HX := hid hx2
        have HO := hid (fun W => isOver_any (mkS x) 4 W (by omega))
        have hi : imgB x = (decide (1 ≤ x.length) && decide (x.length ≤ 12) && overB 4 x) := rfl
        have HI := hid hi
        clear hx1 hx2 hi
        go_wp2_with fail
        refine (within_any _ _ _ _).mono ?_
        rintro e w1 ⟨rfl, rfl⟩
        by_cases hr : 1 ≤ x.length ∧ x.length ≤ 12
        · have hd : (decide ((1 : Int) ≤ ((mkS x).size : Int)) && decide (((mkS x).size : Int) ≤ 12)) = true := by rw [mkS_size]; simp; omega
          rw [hd]
          go_wp2_with fail
          refine (HO.out _).mono ?_
          rintro e w2 ⟨rfl, hb2⟩
          rw [mkS_data]
          have hB2 := hB.trans (hb2.mono hB.size)
          by_cases ho : overB 4 x = true
          · rw [ho]
            have hok : imgB x = true := by rw [HI.out, ho]; simp; omega
            go_wp2_with fail
            refine ⟨⟨k + 1, by omega, by go_num, hB2, ?_⟩, by simp [intOf]; omega⟩
            rw [Hid, HK.out, HX.out, List.all_cons, hok]; rfl
          · have ho' : overB 4 x = false := by simpa using ho
            have hno : imgB x = false := by rw [HI.out, ho']; simp
            rw [ho']
            have HN := hid hno
            clear hno ho ho'
            go_wp2_with fail
            go_ret
            exact ⟨ret_bool (by rw [HF.out, HK.out, HX.out, List.all_cons, HN.out]; rfl), hB2⟩
        · have hd : (decide ((1 : Int) ≤ ((mkS x).size : Int)) && decide (((mkS x).size : Int) ≤ 12)) = false := by rw [mkS_size]; simp; omega
          rw [hd]
          have hno : imgB x = false := by rw [HI.out]; simp; omega
          have HN := hid hno
          clear hno
          go_wp2_with fail
          go_ret
          exact ⟨ret_bool (by rw [HF.out, HK.out, HX.out, List.all_cons, HN.out]; rfl), hB⟩
      · have hfin : m.all imgB = true := by rw [HK.out, List.drop_eq_nil_of_le (by have := H3.out; omega)]; rfl
        have HN := hid hfin
        clear hfin
        go_wp2_with fail
        go_ret
        exact ⟨ret_bool (by rw [HF.out, HN.out]), hB⟩
  · have hne : (((m.length : Nat) : Int) != 3) = true := by simp; omega
    have hfin : mapB m = false := by rw [mapB]; simp [h3]
    have HF := hid hfin
    clear hfin
    go_enter Try.func59, Try.ntmps59
    go_wp2_with fail
    go_ret
    exact ⟨ret_bool (by rw [HF.out]), Below.refl _ _⟩
end Go.Proofs.Ytancficmkkdnfaa
