/-
  Walks: the program's Halves.
-/
import Derived.Test.YthelnggbcgjbcaaLawChecks
import Derived.Test.YthelnggbcgjbcaaSMap
import Derived.Deep.OwnRows
namespace Go.Proofs.Ythelnggbcgjbcaa
open Go.RowKit Go.ChangeMaps

/-- A row of numbers in a block. -/
def rowA (f : Nat → Int) (n : Nat) : Array Value := ((List.range n).map fun i => Value.int .i64 (f i)).toArray
theorem rowA_get (f : Nat → Int) (n j : Nat) (h : j < n) : (rowA f n)[j]? = some (.int .i64 (f j)) := by
  simp [rowA, h]
theorem rowA_set (f : Nat → Int) (n j : Nat) (x : Int) : (rowA f n).setIfInBounds j (.int .i64 x) = rowA (fun i => if i = j then x else f i) n := by
  apply Array.ext'
  rw [Array.toList_setIfInBounds]
  refine List.ext_getElem? fun i => ?_
  rw [List.getElem?_set]
  simp only [rowA, List.length_map, List.length_range, List.getElem?_map]
  by_cases h : j = i
  · subst h
    by_cases h2 : j < n
    · simp [h2]
    · simp [h2]
  · rw [if_neg h]
    by_cases h2 : i < n
    · have : ¬ i = j := fun e => h e.symm
      simp [h2, this]
    · simp [h2]
theorem rowA_made (n : Nat) : madeCells #[.int .i64 0] n = rowA (fun _ => 0) n := by
  unfold madeCells rowA
  apply Array.ext'
  simp [Nat.mod_one]
theorem rowA_congr {f g : Nat → Int} {n : Nat} (h : ∀ i, i < n → f i = g i) : rowA f n = rowA g n := by
  unfold rowA
  congr 1
  exact List.map_congr_left fun i hi => by rw [h i (List.mem_range.1 hi)]
theorem Blk.rowAt {w : World} {b : Nat} {f : Nat → Int} {n : Nat} {t : TypeId} (h : Blk w b (rowA f n) t) (j : Nat) (hj : j < n) : w.cell? ⟨b, j, none⟩ = some (.int .i64 (f j)) := (h.cell j).trans (rowA_get f n j hj)
theorem Blk.rowPut {w : World} {b : Nat} {f g : Nat → Int} {n : Nat} {t : TypeId} (h : Blk w b (rowA f n) t) (j : Nat) (x : Int) (hg : ∀ i, i < n → g i = if i = j then x else f i) : Blk (w.setCell ⟨b, j, none⟩ (.int .i64 x)) b (rowA g n) t := by
  have := h.set j (.int .i64 x)
  rw [rowA_set, ← rowA_congr hg] at this
  exact this
theorem Blk.rowInts {w : World} {b : Nat} {f : Nat → Int} {n : Nat} {t : TypeId} (h : Blk w b (rowA f n) t) : Ints w (some ⟨b, 0, none⟩) ((List.range n).map f) := by
  refine .inr ⟨b, 0, rfl, h.lt, fun i u hu => ?_⟩
  rw [Nat.zero_add, h.cell i]
  simp only [rowA, List.getElem?_toArray]
  rw [List.map_map] at hu
  exact hu

/-- The keys of the map: counts of letters. -/
def enc4 (c : Int × Int × Int × Int) : Value := .agg #[.int .i64 c.1, .int .i64 c.2.1, .int .i64 c.2.2.1, .int .i64 c.2.2.2]
theorem kt4 : KT Try.prog 52 enc4 := by
  refine KT.wide (by simp [Try.underlying52]) ?_ ?_ ?_
  · rintro ⟨a0, a1, a2, a3⟩ ⟨b0, b1, b2, b3⟩ w
    rw [Op.equal, show Op.maxDepth = 10000 from rfl]
    show (Op.equalIn 10000 52 (.agg #[.int .i64 a0, .int .i64 a1, .int .i64 a2, .int .i64 a3]) (.agg #[.int .i64 b0, .int .i64 b1, .int .i64 b2, .int .i64 b3])).run Try.prog w = _
    rw [eq4c]
    congr 1
    rw [Bool.eq_iff_iff]
    simp [and_assoc]
  · rintro em ⟨a0, a1, a2, a3⟩ w
    have hu : ∀ w, (underlying 52).run Try.prog w = .ok (.array 4 3) w := fun w => Try.runUnderlying52 w
    have hs : ∀ w, (sizeOf 3).run Try.prog w = .ok 1 w := fun w => Try.sizeOf3 w
    have hg : ∀ w, (isAgg 3).run Try.prog w = .ok false w := fun w => Try.isAgg3 w
    have hk : ∀ (x : Int) (w : World), (Instr.checkKey em 9999 3 (.int .i64 x)).run Try.prog w = .ok () w := fun x w => MapKept.run_checkKey Try.underlying3 (show MapKept.IsKey (.int .i64) (.int .i64 x) from rfl) em 9998
    rw [show (10000 : Nat) = 9999 + 1 from rfl, Instr.checkKey]
    simp [enc4, hu, Sem.run_bind, go_sem, hs, List.range'_succ, hg, hk]
  · rintro ⟨a0, a1, a2, a3⟩
    simp [enc4, Instr.sameBits]

/-- The letters of half a chain, rounded down. -/
def hf (l : List UInt8) (j : Nat) : Int := ((cn l j / 2 : Nat) : Int)
def isHalf (l p : List UInt8) : Bool := cn p 0 == cn l 0 / 2 && cn p 1 == cn l 1 / 2 && cn p 2 == cn l 2 / 2 && cn p 3 == cn l 3 / 2
/-- How many substrings of a length, from the first m places on, have half of the seals. -/
def halfK (l : List UInt8) (size m : Nat) : Nat := (List.range m).countP fun p => isHalf l ((l.drop p).take size)
def halfN (l : List UInt8) (size : Nat) : Nat := halfK l size (l.length - size + 1)
theorem halfK_succ (l : List UInt8) (size m : Nat) : halfK l size (m + 1) = halfK l size m + if isHalf l ((l.drop m).take size) then 1 else 0 := by
  unfold halfK
  rw [List.range_succ, List.countP_append]
  cases h : isHalf l ((l.drop m).take size) <;> simp [h]
theorem halfK_le (l : List UInt8) (size m : Nat) : halfK l size m ≤ m := by
  unfold halfK
  have := List.countP_le_length (p := fun p => isHalf l ((l.drop p).take size)) (l := List.range m)
  simpa using this
theorem get_half (l p : List UInt8) : (get ((cn p 0 : Int), (cn p 1 : Int), (cn p 2 : Int), (cn p 3 : Int)) [((hf l 0, hf l 1, hf l 2, hf l 3), Value.bool true)]).getD (.bool false) = .bool (isHalf l p) := by
  unfold get
  simp only [fnd]
  by_cases h : (((cn p 0 : Int), (cn p 1 : Int), (cn p 2 : Int), (cn p 3 : Int)) : Int × Int × Int × Int) = (hf l 0, hf l 1, hf l 2, hf l 3)
  · rw [if_pos h]
    simp only [hf, Prod.mk.injEq] at h
    have : isHalf l p = true := by
      simp only [isHalf, Bool.and_eq_true, beq_iff_eq]; omega
    rw [this]; rfl
  · rw [if_neg h]
    have : isHalf l p = false := by
      rw [Bool.eq_false_iff]
      intro hh
      simp only [isHalf, Bool.and_eq_true, beq_iff_eq] at hh
      exact h (by simp only [hf, Prod.mk.injEq]; omega)
    rw [this]; rfl

theorem zero4 (w : World) : (zeroValue 4).run Try.prog w = .ok (.bool false) w := by kernel_rfl
theorem look_half {w : World} {bm : Nat} (l p : List UInt8) (h : MapIs enc4 w bm [((hf l 0, hf l 1, hf l 2, hf l 3), .bool true)]) :
    (Instr.lookup 63 (.map (some bm)) (.agg #[.int .i64 (cn p 0), .int .i64 (cn p 1), .int .i64 (cn p 2), .int .i64 (cn p 3)]) false).run Try.prog w = .ok (.bool (isHalf l p)) w := by
  have := h.look kt4 Try.underlying63 (zero4 w) ((cn p 0 : Int), (cn p 1 : Int), (cn p 2 : Int), (cn p 3 : Int)) false
  rw [get_half] at this
  exact this
theorem extract_ok (s : ByteArray) (a b : Nat) (h : s.data.toList.all okb = true) : (s.extract a b).data.toList.all okb = true := by
  rw [data_extract]
  rw [List.all_eq_true] at h ⊢
  exact fun x hx => h x (List.mem_of_mem_drop (List.mem_of_mem_take hx))

/-- What Halves returns of a chain. -/
def RetHalves (l : List UInt8) (w : World) (e : Ending) (w' : World) : Prop :=
  ∃ b, e = .returned (.tuple #[.slice (some ⟨b, 0, none⟩) (l.length + 1) (l.length + 1), .int .i64 0]) ∧ w.heap.size ≤ b ∧ Blk w' b (rowA (fun i => (halfN l i : Int)) (l.length + 1)) 3 ∧ Below w.heap.size w w'

set_option maxHeartbeats 4000000 in
theorem halves_no (s : ByteArray) (w : World) (hs : s.size ≤ 900) (h : chainB s.data.toList = false) :
    Calls Try.prog 36 #[.string s] w fun e w' => e = .returned (.tuple #[.slice none 0 0, .int .i64 2]) ∧ Below w.heap.size w w' := by
  have H := hid h
  clear h
  go_enter Try.func36, Try.ntmps36
  go_wp2_with fail
  refine (isChain_any s _ (by omega)).mono ?_
  rintro e w1 ⟨rfl, hb⟩
  rw [H.out]
  go_wp2
  go_ret2
  exact ⟨rfl, hb⟩

set_option maxHeartbeats 4000000 in
theorem halves_any (s : ByteArray) (w : World) (hs : s.size ≤ 24) (h : chainB s.data.toList = true) :
    Calls Try.prog 36 #[.string s] w (RetHalves s.data.toList w) := by
  have H := hid h
  have HOK := hid (chain_ok h)
  clear h
  have hmm := @run_makeMap Try.prog
  have hmk := fun W => run_make_row' (P := Try.prog) 23 3 (.int .i64 0) 8 Try.underlying23 Try.info3 rfl .i64 .i64 (s.size + 1) (by omega) (by omega) W
  go_enter Try.func36, Try.ntmps36
  go_wp2_with fail
  refine (isChain_any s _ (by omega)).mono ?_
  rintro e w1 ⟨rfl, hb⟩
  rw [H.out]
  go_wp2_with fail
  refine (of_any s _ (by omega) HOK.out).mono ?_
  rintro e w2 ⟨rfl, hb2⟩
  have hb2 := hb.trans (hb2.mono hb.size)
  have hc0 := cn_le s.data.toList 0
  have hc1 := cn_le s.data.toList 1
  have hc2 := cn_le s.data.toList 2
  have hc3 := cn_le s.data.toList 3
  have hbl := bytes_len s
  clear hb
  go_wp2_with fail
  obtain ⟨w3, hW⟩ : ∃ w3, w3 = w2.alloc (.cells #[.int .i64 (cn s.data.toList 0), .int .i64 (cn s.data.toList 1), .int .i64 (cn s.data.toList 2), .int .i64 (cn s.data.toList 3)] 52) := ⟨_, rfl⟩
  have hA : Blk w3 w2.heap.size (arr4 fun j => cn s.data.toList j) 52 := by rw [hW]; exact Blk.new _ _ _
  have hb3 : Below w.heap.size w w3 := by rw [hW]; exact hb2.alloc hb2.size _
  have hge : w.heap.size ≤ w2.heap.size := hb2.size
  rw [← hW]
  clear hW hb2
  go_loopw [15] (fun i wr => ∃ k : Nat, k ≤ 4 ∧ i = .int .i64 k ∧ Below w.heap.size w wr ∧ Blk wr w2.heap.size (arr4 fun j => if j < k then hf s.data.toList j else cn s.data.toList j) 52) (fun i _ => 4 - (intOf i).toNat)
  case atStart => exact ⟨0, by omega, rfl, hb3, by simpa using hA⟩
  case round =>
    obtain ⟨k, hk, rfl, hB, hA⟩ := hrel
    by_cases hlt : k < 4
    · have hcc := hA.cell4 k hlt
      rw [if_neg (by omega)] at hcc
      have hff := hA.free k
      have hcb := cn_le s.data.toList k
      have hdv : ((cn s.data.toList k : Int)).tdiv 2 = hf s.data.toList k := by
        rw [Int.tdiv_eq_ediv_of_nonneg (by omega)]; unfold hf; omega
      have hfb : 0 ≤ hf s.data.toList k ∧ hf s.data.toList k ≤ 24 := by unfold hf; omega
      go_wp2
      go_roundw
      case rel =>
        refine ⟨k + 1, by omega, by go_num, hB.setCell hge _, hA.store4 k _ hlt fun i hi => ?_⟩
        by_cases h1 : i = k
        · rw [if_pos (by omega), if_pos h1, h1]
        · rw [if_neg h1]
          by_cases h2 : i < k
          · rw [if_pos (by omega), if_pos h2]
          · rw [if_neg (by omega), if_neg h2]
      case measure => simp [intOf]; omega
    · have hd4 : decide ((k : Int) < 4) = false := by simp; omega
      have hA4 : Blk wr w2.heap.size (arr4 (hf s.data.toList)) 52 := by
        rw [show arr4 (hf s.data.toList) = arr4 fun j => if j < k then hf s.data.toList j else (cn s.data.toList j : Int) from arr4_congr fun j hj => by rw [if_pos (by omega)]]
        exact hA
      obtain ⟨w4, hst, hM, o, ho⟩ := (MapIs.made (enc := enc4) wr).store kt4 Try.underlying63 (hf s.data.toList 0, hf s.data.toList 1, hf s.data.toList 2, hf s.data.toList 3) (.bool true)
      simp only [enc4] at hst
      obtain ⟨q0, q1, q2, q3, -⟩ := (hA4.alloc (.map #[] 0)).all4
      have hb4 : Below w.heap.size w w4 := by rw [ho]; exact setBlock_below (hB.alloc hB.size _) hB.size _
      have HM := hid hM
      have hsz4 : wr.heap.size < w4.heap.size := hM.lt
      clear ho hM hA hA4 hc0 hc1 hc2 hc3 hbl
      have hlen : ((s.size : Int) + 1) = ((s.size + 1 : Nat) : Int) := by omega
      have hmk2 : ∀ W : World, (Instr.makeSlice 23 (.int .i64 ((s.size : Int) + 1)) (.int .i64 ((s.size : Int) + 1))).run Try.prog W = .ok (.slice (some ⟨W.heap.size, 0, none⟩) (s.size + 1) (s.size + 1)) (W.alloc (.cells (rowA (fun _ => 0) (s.size + 1)) 3)) := by
        intro W; rw [hlen, hmk W, rowA_made]
      clear hmk hlen
      go_wp2_with fail
      obtain ⟨bm, hbm⟩ : ∃ bm, bm = wr.heap.size := ⟨_, rfl⟩
      rw [← hbm] at HM hsz4 ⊢
      have hgm : w.heap.size ≤ bm := by rw [hbm]; exact hB.size
      have hgo : w.heap.size ≤ w4.heap.size := hb4.size
      clear hst q0 q1 q2 q3 hmk2 hbm hB hmm
      have HM5 : MapIs enc4 (w4.alloc (.cells (rowA (fun _ => 0) (s.size + 1)) 3)) bm [((hf s.data.toList 0, hf s.data.toList 1, hf s.data.toList 2, hf s.data.toList 3), .bool true)] := HM.out.alloc _
      have hO5 : Blk (w4.alloc (.cells (rowA (fun _ => 0) (s.size + 1)) 3)) w4.heap.size (rowA (fun _ => 0) (s.size + 1)) 3 := Blk.new _ _ _
      have hB5 := hb4.alloc hb4.size (.cells (rowA (fun _ => 0) (s.size + 1)) 3)
      go_loopw [33] (fun i wr => ∃ k : Nat, k ≤ s.size + 1 ∧ i = .int .i64 k ∧ Below w.heap.size w wr ∧ MapIs enc4 wr bm [((hf s.data.toList 0, hf s.data.toList 1, hf s.data.toList 2, hf s.data.toList 3), .bool true)] ∧ Blk wr w4.heap.size (rowA (fun i => if i < k then (halfN s.data.toList i : Int) else 0) (s.size + 1)) 3) (fun i _ => s.size + 1 - (intOf i).toNat)
      case atStart => exact ⟨0, by omega, rfl, hB5, HM5, by simpa using hO5⟩
      case round =>
        obtain ⟨k, hk, rfl, hB6, HM6, hO6⟩ := hrel
        have hM6 := hid HM6
        have hO6 := hid hO6
        clear HM5 hO5 HM6
        by_cases hlt : k < s.size + 1
        · have hdk : decide ((k : Int) < (s.size : Int) + 1) = true := by simp; omega
          go_wp2_with fail
          go_loopw [41] (fun i wr => ∃ m : Nat, m ≤ s.size - k + 1 ∧ i = .int .i64 m ∧ Below w.heap.size w wr ∧ MapIs enc4 wr bm [((hf s.data.toList 0, hf s.data.toList 1, hf s.data.toList 2, hf s.data.toList 3), .bool true)] ∧ Blk wr w4.heap.size (rowA (fun i => if i < k then (halfN s.data.toList i : Int) else if i = k then (halfK s.data.toList k m : Int) else 0) (s.size + 1)) 3) (fun i _ => s.size - k + 1 - (intOf i).toNat)
          case atStart =>
            refine ⟨0, by omega, rfl, hB6, hM6.out, ?_⟩
            rw [rowA_congr (g := fun i => if i < k then (halfN s.data.toList i : Int) else 0) fun i hi => ?_]
            · exact hO6.out
            · by_cases h1 : i < k
              · rw [if_pos h1, if_pos h1]
              · rw [if_neg h1, if_neg h1]; simp [halfK]
          case round =>
            obtain ⟨m, hm, rfl, hB7, hM7, hO7⟩ := hrel
            have HM7 := hid hM7
            have HO7 := hid hO7
            have hgw : w4.heap.size < wr.heap.size := hO7.lt
            clear hM7 hO7
            by_cases hml : m < s.size - k + 1
            · have hx := extract_ok s m (m + k) HOK.out
              have HX := hid hx
              have hxs : (s.extract m (m + k)).size ≤ 1000000 := by simp; omega
              have hmk1 : m + k ≤ s.size := by omega
              have hmk2 : m ≤ m + k := by omega
              clear hx
              go_wp2_with fail
              refine (of_any (s.extract m (m + k)) wr hxs HX.out).mono ?_
              rintro e w5 ⟨rfl, hb5⟩
              obtain ⟨z, hz⟩ : ∃ z, z = (s.extract m (m + k)).data.toList := ⟨_, rfl⟩
              rw [← hz]
              have hM8 := HM7.out.below hb5 HM7.out.lt
              have hO8 := HO7.out.below hb5 hgw
              have hB8 := hB7.trans (hb5.mono hB7.size)
              have hlk := look_half s.data.toList z hM8
              obtain ⟨hb, hhb⟩ : ∃ b, b = isHalf s.data.toList z := ⟨_, rfl⟩
              rw [← hhb] at hlk
              have hsu := halfK_succ s.data.toList k m
              have hde : (s.data.toList.drop m).take k = z := by rw [hz, data_extract, show m + k - m = k by omega]
              rw [hde, ← hhb] at hsu
              have hkb := halfK_le s.data.toList k m
              have HM8 := hid hM8
              have HO8 := hid hO8
              have HSU := hid hsu
              clear hhb hsu hde hM8 hO8 hz
              cases hb
              · go_wp2
                go_roundw
                case rel =>
                  refine ⟨m + 1, by omega, by go_num, hB8, HM8.out, ?_⟩
                  rw [rowA_congr (g := fun i => if i < k then (halfN s.data.toList i : Int) else if i = k then (halfK s.data.toList k m : Int) else 0) fun i hi => ?_]
                  · exact HO8.out
                  · rw [HSU.out]; rfl
                case measure => simp [intOf]; omega
              · have q1 := HO8.out.rowAt k (by omega)
                rw [if_neg (by omega), if_pos rfl] at q1
                have q2 := HO8.out.free k
                go_wp2
                go_roundw
                case rel =>
                  refine ⟨m + 1, by omega, by go_num, hB8.setCell hgo _, HM8.out.setCell _ (by simp; omega) _, HO8.out.rowPut k _ fun i hi => ?_⟩
                  by_cases h1 : i = k
                  · subst h1; rw [if_neg (by omega), if_pos rfl, if_pos rfl, HSU.out]; simp
                  · by_cases h2 : i < k <;> simp [h1, h2]
                case measure => simp [intOf]; omega
            · have hm2 : m = s.size - k + 1 := by omega
              go_wp2
              go_roundw
              case rel =>
                refine ⟨k + 1, by omega, by go_num, hB7, HM7.out, ?_⟩
                rw [rowA_congr (g := fun i => if i < k then (halfN s.data.toList i : Int) else if i = k then (halfK s.data.toList k m : Int) else 0) fun i hi => ?_]
                · exact HO7.out
                · by_cases h1 : i < k
                  · rw [if_pos (by omega), if_pos h1]
                  · rw [if_neg h1]
                    by_cases h2 : i = k
                    · subst h2; rw [if_pos (by omega), if_pos rfl, hm2]; rfl
                    · rw [if_neg (by omega), if_neg h2]
              case measure => simp [intOf]; omega
        · have hfin : Blk wr w4.heap.size (rowA (fun i => (halfN s.data.toList i : Int)) (s.size + 1)) 3 := by
            rw [rowA_congr (g := fun i => if i < k then (halfN s.data.toList i : Int) else 0) fun i hi => ?_]
            · exact hO6.out
            · rw [if_pos (by omega)]
          have HF := hid hfin
          clear hfin
          go_wp2
          go_ret2
          exact ⟨w4.heap.size, rfl, hgo, HF.out, hB6⟩
end Go.Proofs.Ythelnggbcgjbcaa
