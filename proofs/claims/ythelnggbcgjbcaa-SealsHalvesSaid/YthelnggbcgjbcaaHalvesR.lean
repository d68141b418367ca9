/-
  Walks: the reference's Halves.
-/
import Derived.Test.YthelnggbcgjbcaaHalvesP
import Derived.Test.YthelnggbcgjbcaaEven
import Derived.Deep.RegionHeld3
namespace Go.Proofs.Ythelnggbcgjbcaa
open Go.RowKit

theorem eqHalf (l p : List UInt8) (W : World) : (Op.equalIn 10000 22 (.agg #[.int .i64 (cn p 0), .int .i64 (cn p 1), .int .i64 (cn p 2), .int .i64 (cn p 3)]) (.agg #[.int .i64 (hf l 0), .int .i64 (hf l 1), .int .i64 (hf l 2), .int .i64 (hf l 3)])).run Try.prog W = .ok (isHalf l p) W := by
  rw [eq4]
  congr 1
  rw [isHalf, Bool.eq_iff_iff]
  simp only [Bool.and_eq_true, beq_iff_eq, hf]
  omega
theorem cell_lt {w : World} {b j : Nat} {v : Value} (h : w.cell? ⟨b, j, none⟩ = some v) : b < w.heap.size := by
  rcases Nat.lt_or_ge b w.heap.size with h' | h'
  · exact h'
  · simp [World.cell?, Array.getElem?_eq_none h'] at h
theorem letters_keep (x : ByteArray) (b : Nat) (v0 v1 v2 v3 : Value) (W : World) (hs : x.size ≤ 9223372036854775807) (hok : x.data.toList.all okb = true)
    (h0 : W.cell? ⟨b, 0, none⟩ = some v0) (h1 : W.cell? ⟨b, 1, none⟩ = some v1) (h2 : W.cell? ⟨b, 2, none⟩ = some v2) (h3 : W.cell? ⟨b, 3, none⟩ = some v3) :
    Calls Try.prog 33 #[.string x] W fun e w' => e = .returned (.agg #[.int .i64 (cn x.data.toList 0), .int .i64 (cn x.data.toList 1), .int .i64 (cn x.data.toList 2), .int .i64 (cn x.data.toList 3)]) ∧ Below W.heap.size W w' ∧
      w'.cell? ⟨b, 0, none⟩ = some v0 ∧ w'.cell? ⟨b, 1, none⟩ = some v1 ∧ w'.cell? ⟨b, 2, none⟩ = some v2 ∧ w'.cell? ⟨b, 3, none⟩ = some v3 := by
  refine (Letters_any x W hs hok).mono ?_
  rintro e w' ⟨he, hb⟩
  have hl := cell_lt h0
  exact ⟨he, hb, (hb.cell (p := ⟨b, 0, none⟩) hl).trans h0, (hb.cell (p := ⟨b, 1, none⟩) hl).trans h1, (hb.cell (p := ⟨b, 2, none⟩) hl).trans h2, (hb.cell (p := ⟨b, 3, none⟩) hl).trans h3⟩
def halvesL (l : List UInt8) (k : Nat) : List Int := (List.range k).map fun i => (halfN l i : Int)
theorem halvesL_succ (l : List UInt8) (k : Nat) : halvesL l (k + 1) = halvesL l k ++ [(halfN l k : Int)] := by
  simp [halvesL, List.range_succ]

set_option maxHeartbeats 4000000 in
theorem refHalves_any (s : ByteArray) (w : World) (hs : s.size ≤ 24) (hok : s.data.toList.all okb = true) :
    Calls Try.prog 40 #[.string s] w (RetInts (halvesL s.data.toList (s.data.toList.length + 1)) w) := by
  have HOK := hid hok
  clear hok
  go_enter Try.func40, Try.ntmps40
  go_wp2_with fail
  refine (Letters_any s _ (by omega) HOK.out).mono ?_
  rintro e w1 ⟨rfl, hb⟩
  have hd : ∀ j, ((cn s.data.toList j : Int)).tdiv 2 = hf s.data.toList j := by
    intro j; rw [Int.tdiv_eq_ediv_of_nonneg (by omega)]; unfold hf; omega
  have hfb : ∀ j, 0 ≤ hf s.data.toList j ∧ hf s.data.toList j ≤ 24 := by
    intro j; have := cn_le s.data.toList j; have := bytes_len s; unfold hf; omega
  have d0 := hd 0
  have d1 := hd 1
  have d2 := hd 2
  have d3 := hd 3
  have b0 := hfb 0
  have b1 := hfb 1
  have b2 := hfb 2
  have b3 := hfb 3
  clear hd hfb
  go_wp2_with fail
  clear d0 d1 d2 d3 b0 b1 b2 b3
  have hge := hb.size
  have hbl := bytes_len s
  have HBL := hid hbl
  clear hbl
  go_loopw [5, 6] (fun v i wr => ∃ (k : Nat) (L : List Int), k ≤ s.size + 1 ∧ i = .int .i64 k ∧ Below w.heap.size w wr ∧ Blk wr (w1.heap.size + 1) (arr4 (hf s.data.toList)) 22 ∧ wr.ownsRow (w1.heap.size + 2) 3 1 v L.length (L.map (Value.int .i64)) ∧ L.length = k ∧ Hid (L = halvesL s.data.toList k)) (fun _ i _ => s.size + 1 - (intOf i).toNat)
  case atStart => exact ⟨0, [], by omega, rfl, (hb.alloc hb.size _).alloc (by simp; omega) _, Blk.mk' (by simp) rfl, World.ownsRow_nil _ _ _ _, rfl, rfl⟩
  case round =>
    obtain ⟨k, L, hk, rfl, hB, hA, hown, hLk, HL⟩ := hrel
    have HA := hid hA
    have HLk := hid hLk
    have hLb : L.length ≤ 100 := by omega
    have hsz := hA.lt
    clear hA hLk
    by_cases hlt : k < s.size + 1
    · have hdk : decide ((k : Int) ≤ (s.size : Int)) = true := by simp; omega
      have hks : k ≤ s.size := by omega
      go_wp2_with fail
      go_loopw [7, 8] (fun c i wr => ∃ (m : Nat), m ≤ s.size - k + 1 ∧ i = .int .i64 m ∧ c = .int .i64 (halfK s.data.toList k m) ∧ Below w.heap.size w wr ∧ Blk wr (w1.heap.size + 1) (arr4 (hf s.data.toList)) 22 ∧ wr.ownsRow (w1.heap.size + 2) 3 1 u5 L.length (L.map (Value.int .i64))) (fun _ i _ => s.size - k + 1 - (intOf i).toNat)
      case atStart => exact ⟨0, by omega, rfl, rfl, hB, HA.out, hown⟩
      case round =>
        obtain ⟨m, hm, rfl, rfl, hB2, hA2, hown2⟩ := hrel
        have HA2 := hid hA2
        have hsz2 := hA2.lt
        have hkb := halfK_le s.data.toList k m
        clear hA2
        by_cases hml : m < s.size - k + 1
        · have hx := extract_ok s m (m + k) HOK.out
          obtain ⟨x, hxe⟩ : ∃ x, x = s.extract m (m + k) := ⟨_, rfl⟩
          rw [← hxe] at hx
          have hxs : x.size ≤ 9223372036854775807 := by rw [hxe]; simp; omega
          have hmk1 : m + k ≤ s.size := by omega
          have hmk2 : m ≤ m + k := by omega
          have LX := hid (fun W => letters_keep x (w1.heap.size + 1) (.int .i64 (hf s.data.toList 0)) (.int .i64 (hf s.data.toList 1)) (.int .i64 (hf s.data.toList 2)) (.int .i64 (hf s.data.toList 3)) W hxs hx)
          have hE := fun W => eqHalf s.data.toList x.data.toList W
          obtain ⟨q0, q1, q2, q3, -⟩ := HA2.out.all4
          have HXE := hid hxe
          obtain ⟨z, hz⟩ : ∃ z, z = isHalf s.data.toList x.data.toList := ⟨_, rfl⟩
          have hsu := halfK_succ s.data.toList k m
          have hde : (s.data.toList.drop m).take k = x.data.toList := by rw [hxe, data_extract, show m + k - m = k by omega]
          rw [hde, ← hz] at hsu
          have HSU := hid hsu
          rw [← hz] at hE
          clear hx hxe hz hsu hde
          go_wp2_with fail
          have i1 : (0 : Int) ≤ (m : Int) := by omega
          have i2 : (m : Int) ≤ (m : Int) + (k : Int) := by omega
          have i3 : (m : Int) + (k : Int) ≤ (s.size : Int) := by omega
          have i4 : IntKind.i64.wrap ((m : Int) + (k : Int)) = (m : Int) + (k : Int) := IntWalk.i64_in _ (by omega)
          have i5 : ((m : Int) + (k : Int)).toNat = m + k := by omega
          go_region_held3 (fun W' => W'.cell? ⟨w1.heap.size + 1, 0, none⟩ = some (.int .i64 (hf s.data.toList 0)) ∧ W'.cell? ⟨w1.heap.size + 1, 1, none⟩ = some (.int .i64 (hf s.data.toList 1)) ∧ W'.cell? ⟨w1.heap.size + 1, 2, none⟩ = some (.int .i64 (hf s.data.toList 2)) ∧ W'.cell? ⟨w1.heap.size + 1, 3, none⟩ = some (.int .i64 (hf s.data.toList 3))) (go_keep)
            (first | (go_at_call 33; rw [← HXE.out]; refine (LX.out _ ?_ ?_ ?_ ?_).mono ?_; (simp [*]); (simp [*]); (simp [*]); (simp [*]); rintro e w5 ⟨rfl, hb5, s0, s1, s2, s3⟩))
          have hb6 : Below wr.heap.size wr w5 := (Below.refl _ wr).drew.trans hb5
          have hB6 := hB2.trans (hb6.mono hB2.size)
          have hA6 := HA2.out.below hb6 hsz2
          have hown6 := ownsRow_low hown2 hb6 (Nat.le_refl _)
          clear hE
          cases z
          · go_wp2
            go_roundw
            case rel => exact ⟨m + 1, by omega, by go_num, by rw [HSU.out]; simp, hB6, hA6, hown6⟩
            case measure => simp [intOf]; omega
          · go_wp2
            go_roundw
            case rel => exact ⟨m + 1, by omega, by go_num, by rw [HSU.out]; simp, hB6, hA6, hown6⟩
            case measure => simp [intOf]; omega
        · have hm2 : m = s.size - k + 1 := by omega
          have hN : halfK s.data.toList k m = halfN s.data.toList k := by rw [hm2, halfN, HBL.out]
          have HN := hid hN
          clear hN hm2
          go_wp2_with (at_builtin; go_must (refine wpList_app _ rfl (.tmp 49) (.tmp 51) 23 rfl (w1.heap.size + 2) 3 (.int .i64 0) 8 Try.underlying23 Try.info3 rfl _ L.length _ rfl (hown2.alloc _) (some ⟨wr.heap.size, 0, none⟩) 1 1 [.int .i64 _] rfl rfl (vals_new _ _ _ _ rfl) (fun h => by cases h) (by simp [Value.oneCell']) (by omega) (by omega) (by simp; omega) ?_))
          intro v' w3 hown' hgrow _
          have hB' := below_app (hB2.alloc hB2.size _) hgrow (hown2.alloc _) (by have := hB2.size; simp; omega) (by omega)
          have hA' : Blk w3 (w1.heap.size + 1) (arr4 (hf s.data.toList)) 22 := (hgrow.block (w1.heap.size + 1) (by simp; omega) (fun e => by have := (hown2.lt _ e.symm).1; omega)).trans (HA2.out.alloc _)
          go_wp2
          go_roundw
          case rel => exact ⟨k + 1, L ++ [(halfK s.data.toList k m : Int)], by omega, by go_num, hB', hA', by simpa using hown', by simp [HLk.out], by rw [Hid, halvesL_succ, HL.out, HN.out]⟩
          case measure => simp [intOf]; omega
    · obtain ⟨a', c', rfl, hr⟩ := ownsRow_ints hown
      have hfin : L = halvesL s.data.toList (s.data.toList.length + 1) := by rw [HL.out, HBL.out, show k = s.size + 1 by omega]
      have fin : RetInts (halvesL s.data.toList (s.data.toList.length + 1)) w (.returned (.slice a' L.length c')) wr := ⟨a', c', by rw [← hfin], by rw [← hfin]; exact hr, hB⟩
      have FIN := hid fin
      clear hfin fin
      go_wp2
      go_ret
      exact FIN.out
end Go.Proofs.Ythelnggbcgjbcaa
