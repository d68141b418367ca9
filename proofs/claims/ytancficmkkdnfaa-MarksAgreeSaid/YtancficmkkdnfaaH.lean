/-
  Walks: Image, the reference's Map and Image.
-/
import Derived.Test.YtancficmkkdnfaaG
namespace Go.Proofs.Ytancficmkkdnfaa
open Go.RowKit

def imageOk (m : List (List UInt8)) (l : List UInt8) : Bool := mapB m && wordB l && overB 3 l
def RetImage (m : List (List UInt8)) (l : List UInt8) (w : World) (e : Ending) (w' : World) : Prop :=
  e = .returned (if imageOk m l then .tuple #[.string (mkS (imgW m l)), .int .i64 0] else .tuple #[.string ⟨#[]⟩, .int .i64 2]) ∧ Below w.heap.size w w'

set_option maxHeartbeats 1000000 in
theorem Image_any (a : Option Addr) (c : Nat) (m : List (List UInt8)) (s : ByteArray) (w : World) (hm : Strs w a m) (hs : m.length ≤ 1000000) (hs2 : ∀ x ∈ m, x.length ≤ 1000000) (hss : s.size ≤ 1000000) :
    Calls Try.prog 31 #[.slice a m.length c, .string s] w (RetImage m s.data.toList w) := by
  have HM := hid (isMap_any a c m w hm hs hs2)
  have HW := hid (fun W => isWord_any s W)
  have HO := hid (fun W => isOver_any s 3 W (by omega))
  by_cases hok : imageOk m s.data.toList = true
  · have hfin : RetImage m s.data.toList w = fun e w' => e = .returned (.tuple #[.string (mkS (imgW m s.data.toList)), .int .i64 0]) ∧ Below w.heap.size w w' := by unfold RetImage; rw [if_pos hok]
    rw [hfin]
    rw [imageOk, Bool.and_eq_true, Bool.and_eq_true] at hok
    obtain ⟨⟨h1, h2⟩, h3⟩ := hok
    have hl := (word_len h2).1
    rw [bytes_len] at hl
    have HI := hid (fun W (hW : Strs W a m) => image_any a c m s W hW h1 (by omega) h3)
    have hlen := (map_len h1).1
    rw [h1, hlen] at HM
    rw [h2] at HW
    rw [h3] at HO
    rw [hlen]
    clear hfin h1 h2 h3 hlen
    go_enter Try.func31, Try.ntmps31
    go_wp2_with fail
    refine HM.out.mono ?_
    rintro e w1 ⟨rfl, hb1⟩
    go_wp2_with fail
    refine (HW.out _).mono ?_
    rintro e w2 ⟨rfl, hb2⟩
    go_wp2_with fail
    refine (HO.out _).mono ?_
    rintro e w3 ⟨rfl, hb3⟩
    have hB := (hb1.trans (hb2.mono hb1.size)).trans (hb3.mono (Nat.le_trans hb1.size hb2.size))
    go_wp2_with fail
    refine (HI.out _ (hm.below hB (Nat.le_refl _))).mono ?_
    rintro e w4 ⟨rfl, hb4⟩
    go_wp2_with fail
    go_ret2
    exact ⟨rfl, hB.trans (hb4.mono hB.size)⟩
  · have hfin : RetImage m s.data.toList w = fun e w' => e = .returned (.tuple #[.string ⟨#[]⟩, .int .i64 2]) ∧ Below w.heap.size w w' := by unfold RetImage; rw [if_neg hok]
    rw [hfin]
    clear hfin
    go_enter Try.func31, Try.ntmps31
    go_wp2_with fail
    refine HM.out.mono ?_
    rintro e w1 ⟨rfl, hb1⟩
    by_cases h1 : mapB m = true
    · rw [h1]
      go_wp2_with fail
      refine (HW.out _).mono ?_
      rintro e w2 ⟨rfl, hb2⟩
      by_cases h2 : wordB s.data.toList = true
      · rw [h2]
        go_wp2_with fail
        refine (HO.out _).mono ?_
        rintro e w3 ⟨rfl, hb3⟩
        have hB := (hb1.trans (hb2.mono hb1.size)).trans (hb3.mono (Nat.le_trans hb1.size hb2.size))
        have h3 : overB 3 s.data.toList = false := by
          rw [Bool.eq_false_iff]; intro h3; exact hok (by rw [imageOk, h1, h2, h3]; rfl)
        rw [h3]
        go_wp2_with fail
        go_ret2
        exact ⟨rfl, hB⟩
      · rw [show wordB s.data.toList = false by simpa using h2]
        go_wp2_with fail
        go_ret2
        exact ⟨rfl, hb1.trans (hb2.mono hb1.size)⟩
    · rw [show mapB m = false by simpa using h1]
      go_wp2_with fail
      go_ret2
      exact ⟨rfl, hb1⟩

set_option maxHeartbeats 1000000 in
theorem refMap_any (a : Option Addr) (c : Nat) (m : List (List UInt8)) (w : World) (hm : Strs w a m) (hs : m.length ≤ 1000000) (hs2 : ∀ x ∈ m, x.length ≤ 1000000) :
    Calls Try.prog 33 #[.slice a m.length c] w fun e w' => e = .returned (.bool (mapB m)) ∧ Below w.heap.size w w' := by
  go_enter Try.func33, Try.ntmps33
  go_wp2_with fail
  go_loopw [3] (fun i wr => ∃ k : Nat, k ≤ m.length ∧ i = .int .i64 k ∧ Below w.heap.size w wr ∧ Hid (m.all imgB = (m.drop k).all imgB)) (fun i _ => m.length - (intOf i).toNat)
  case atStart => exact ⟨0, by omega, rfl, Below.refl _ _, rfl⟩
  case round =>
    obtain ⟨k, hk, rfl, hB, HK⟩ := hrel
    by_cases hlt : k < m.length
    · obtain ⟨g, o, rfl, hg, hcell⟩ := hm.at (by omega)
      obtain ⟨x, hx1, hx2⟩ := list_drop_cons m k (by omega)
      have q1 : wr.cell? ⟨g, o + k, none⟩ = some (.string (mkS x)) := (hB.cell (p := ⟨g, o + k, none⟩) hg).trans (hcell _ _ hx1)
      have hxl := hs2 x (List.mem_of_getElem? hx1)
      have HX := hid hx2
      have HO := hid (Letters_any (mkS x) 4 wr (by omega) (by rw [mkS_size]; omega))
      rw [mkS_data] at HO
      have hi : imgB x = (decide (1 ≤ x.length) && decide (x.length ≤ 12) && overB 4 x) := rfl
      have HI := hid hi
      have hsz := mkS_size x
      clear hx1 hx2 hi
      by_cases h1 : 1 ≤ x.length
      · have hd1 : decide (((mkS x).size : Int) < 1) = false := by rw [mkS_size]; simp; omega
        by_cases h2 : x.length ≤ 12
        · have hd2 : decide (((mkS x).size : Int) > 12) = false := by rw [mkS_size]; simp; omega
          go_wp2_with fail
          refine HO.out.mono ?_
          rintro e w2 ⟨rfl, rfl⟩
          by_cases ho : overB 4 x = true
          · rw [ho]
            have hok : imgB x = true := by rw [HI.out, ho]; simp; omega
            go_wp2_with fail
            refine ⟨⟨k + 1, by omega, by go_num, hB, ?_⟩, by simp [intOf]; omega⟩
            rw [Hid, HK.out, HX.out, List.all_cons, hok]; rfl
          · have ho' : overB 4 x = false := by simpa using ho
            have hno : imgB x = false := by rw [HI.out, ho']; simp
            rw [ho']
            have HN := hid (show mapB m = false by rw [mapB, HK.out, HX.out, List.all_cons, hno]; rfl)
            clear hno ho ho'
            go_wp2_with fail
            go_ret
            exact ⟨ret_bool (by rw [HN.out]), hB⟩
        · have hd2 : decide (((mkS x).size : Int) > 12) = true := by rw [mkS_size]; simp; omega
          have hno : imgB x = false := by rw [HI.out]; simp; omega
          have HN := hid (show mapB m = false by rw [mapB, HK.out, HX.out, List.all_cons, hno]; rfl)
          clear hno
          go_wp2_with fail
          go_ret
          exact ⟨ret_bool (by rw [HN.out]), hB⟩
      · have hd1 : decide (((mkS x).size : Int) < 1) = true := by rw [mkS_size]; simp; omega
        have hno : imgB x = false := by rw [HI.out]; simp; omega
        have HN := hid (show mapB m = false by rw [mapB, HK.out, HX.out, List.all_cons, hno]; rfl)
        clear hno
        go_wp2_with fail
        go_ret
        exact ⟨ret_bool (by rw [HN.out]), hB⟩
    · have hfin : m.all imgB = true := by rw [HK.out, List.drop_eq_nil_of_le (by omega)]; rfl
      have HN := hid (show mapB m = (m.length == 3) by rw [mapB, hfin]; rfl)
      clear hfin
      go_wp2_with fail
      go_ret
      refine ⟨ret_bool ?_, hB⟩
      rw [HN.out, Bool.eq_iff_iff]; simp; omega

set_option maxHeartbeats 1000000 in
theorem refImage_any (a : Option Addr) (c : Nat) (m : List (List UInt8)) (s : ByteArray) (w : World) (hm : Strs w a m) (hmap : mapB m = true) (hs : s.size ≤ 100000) (hl : overB 3 s.data.toList = true) :
    Calls Try.prog 36 #[.slice a 3 c, .string s] w fun e w' => e = .returned (.string (mkS (imgW m s.data.toList))) ∧ Below w.heap.size w w' := by
  obtain ⟨g, o, rfl, hg, hcell⟩ := hm.at (by rw [(map_len hmap).1]; omega)
  have HL := hid hl
  have HM := hid hmap
  clear hm hmap hl
  go_enter Try.func36, Try.ntmps36
  go_wp2_with fail
  go_loopw [5, 6] (fun t i wr => ∃ (k : Nat) (acc : List UInt8), k ≤ s.size ∧ i = .int .i64 k ∧ t = .string (mkS acc) ∧ Below w.heap.size w wr ∧ acc.length ≤ 12 * k ∧ Hid (imgW m s.data.toList = acc ++ imgW m (s.data.toList.drop k))) (fun _ i _ => s.size - (intOf i).toNat)
  case atStart => exact ⟨0, [], by omega, rfl, rfl, Below.refl _ _, by simp, rfl⟩
  case round =>
    obtain ⟨k, acc, hk, rfl, rfl, hB, hal, HW⟩ := hrel
    by_cases hlt : k < s.size
    · have hlet := overB_mem HL.out (byte_mem s k hlt)
      obtain ⟨x, hx1, hx2, hx3, hx4, -⟩ := (map_len HM.out).2 (s[k].toNat - 97) (by omega)
      have q1 : wr.cell? ⟨g, o + (s[k].toNat - 97), none⟩ = some (.string (mkS x)) := (hB.cell (p := ⟨g, o + (s[k].toNat - 97), none⟩) hg).trans (hcell _ _ hx1)
      have H2 := hid (bytes_drop s k hlt)
      have hix : IntKind.u8.wrap ((s[k].toNat : Int) - 97) = ((s[k].toNat - 97 : Nat) : Int) := by
        rw [show ((s[k].toNat : Int) - 97) = ((s[k].toNat - 97 : Nat) : Int) by omega]
        exact IntWalk.u8_in _ (by omega)
      have hI3 : s[k].toNat - 97 < 3 := by omega
      have HX := hid (show imgL m s[k] = x from hx2)
      clear hx1 hx2
      have hcat : ¬ 9223372036854775807 < (mkS acc).size + (mkS x).size := by rw [mkS_size, mkS_size]; omega
      go_wp2_with fail
      refine ⟨⟨k + 1, acc ++ x, by omega, by go_num, by rw [mkS_append], hB, by rw [List.length_append]; omega, ?_⟩, by simp [intOf]; omega⟩
      rw [Hid, HW.out, H2.out, imgW_cons, HX.out, List.append_assoc]
    · have hfin : imgW m s.data.toList = acc := by rw [HW.out, bytes_drop_end s k (by omega)]; simp [imgW]
      have HF := hid hfin
      clear hfin
      go_wp2_with fail
      go_ret
      exact ⟨ret_str (by rw [HF.out]), hB⟩
end Go.Proofs.Ytancficmkkdnfaa
