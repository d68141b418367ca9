/-
  Walks: which sums are reached.
-/
import Derived.Test.YtkmpdcckgibkhaaGreatVe
import Derived.Test.YtkmpdcckgibkhaaGreatOM
namespace Go.Proofs.YtkmpdcckgibkhaaGreat
open Go.RowKit Go.ChangeMaps

theorem info113 : (Tryz.prog.info? 113).map (fun i => (i.zero, i.size, i.bytes)) = some (some (.map none), 1, 8) := by kernel_rfl
theorem zeroB4 (w : World) : (zeroValue 4).run Tryz.prog w = .ok (.bool false) w := by kernel_rfl
/-- A row of values in a block. -/
def rowW (f : Nat → Value) (n : Nat) : Array Value := ((List.range n).map f).toArray
theorem rowW_get (f : Nat → Value) (n j : Nat) (h : j < n) : (rowW f n)[j]? = some (f j) := by simp [rowW, h]
theorem rowW_set (f : Nat → Value) (n j : Nat) (x : Value) : (rowW f n).setIfInBounds j x = rowW (fun i => if i = j then x else f i) n := by
  apply Array.ext'
  rw [Array.toList_setIfInBounds]
  refine List.ext_getElem? fun i => ?_
  rw [List.getElem?_set]
  simp only [rowW, List.length_map, List.length_range, List.getElem?_map]
  by_cases h : j = i
  · subst h
    by_cases h2 : j < n
    · simp [h2]
    · simp [h2]
  · rw [if_neg h]
    by_cases h2 : i < n
    · have : ¬ i = j := fun e => h e.symm
      simp [h2, this]
    · simp [h2]
theorem rowW_made (n : Nat) : madeCells #[.map none] n = rowW (fun _ => .map none) n := by
  unfold madeCells rowW
  apply Array.ext'
  simp [Nat.mod_one]
theorem Blk.rowWat {w : World} {b : Nat} {f : Nat → Value} {n : Nat} {t : TypeId} (h : Blk w b (rowW f n) t) (j : Nat) (hj : j < n) : w.cell? ⟨b, j, none⟩ = some (f j) := (h.cell j).trans (rowW_get f n j hj)
theorem Blk.rowWput {w : World} {b : Nat} {f : Nat → Value} {n : Nat} {t : TypeId} (h : Blk w b (rowW f n) t) (j : Nat) (x : Value) : Blk (w.setCell ⟨b, j, none⟩ x) b (rowW (fun i => if i = j then x else f i) n) t := by
  have := h.set j x
  rw [rowW_set] at this
  exact this
theorem mk62 (k : Nat) (hk : k ≤ 100) (W : World) : (Instr.makeSlice 62 (.int .i64 k) (.int .i64 k)).run Tryz.prog W = .ok (.slice (some ⟨W.heap.size, 0, none⟩) k k) (W.alloc (.cells (rowW (fun _ => .map none) k) 113)) := by
  have hmk := run_make_row' (P := Tryz.prog) 62 113 (.map none) 8 Tryz.underlying62 info113 rfl .i64 .i64 k (by omega) (by omega) W
  rw [← rowW_made]; exact hmk

/-- The maps of the parts from each place on. -/
def Maps (n : Int) (L : List Int) (f : Nat → Value) (i : Nat) (W : World) (B : Nat) : Prop := ∀ j, i ≤ j → j ≤ L.length → ∃ b M, f j = .map (some b) ∧ B ≤ b ∧ MapIs enc3 W b M ∧ RMap n (L.drop j) M

theorem Maps.grown {n : Int} {L : List Int} {f : Nat → Value} {i B : Nat} {W W' : World} {r : Option Nat} (h : Maps n L f i W B) (hg : W.grownBy W' r) (hr : ∀ j, i ≤ j → j ≤ L.length → ∀ b, f j = .map (some b) → r ≠ some b) : Maps n L f i W' B := by
  intro j h1 h2
  obtain ⟨b, M, e1, e2, e3, e4⟩ := h j h1 h2
  exact ⟨b, M, e1, e2, (hg.block b e3.lt (fun e => hr j h1 h2 b e1 e.symm)).trans e3, e4⟩
/-- What the loop of reached keeps. -/
def RchI (w : World) (n : Int) (L : List Int) (i : Nat) (f : Nat → Value) (W : World) : Prop :=
  Below w.heap.size w W ∧ Blk W w.heap.size #[.int .i64 n, .int .i64 1, .int .i64 1] 59 ∧ Blk W (w.heap.size + 1) (rowW f (L.length + 1)) 113 ∧ Maps n L f i W (w.heap.size + 2)

/-- What the inner loop of reached keeps. -/
def RchJ (w : World) (n : Int) (L : List Int) (j bn b1 : Nat) (f : Nat → Value) (x : Int) (M1 : List ((Int × Int × Int) × Value)) (seen : Array Nat) (M0 : List ((Int × Int × Int) × Value)) (W : World) : Prop :=
  Below w.heap.size w W ∧ Blk W w.heap.size #[.int .i64 n, .int .i64 1, .int .i64 1] 59 ∧ Blk W (w.heap.size + 1) (rowW (fun i => if i = j then .map (some bn) else f i) (L.length + 1)) 113 ∧ Maps n L f (j + 1) W (w.heap.size + 2) ∧
  MapIs enc3 W b1 M1 ∧ IterAt W (bn + 1) b1 M1.length seen ∧ MapIs enc3 W bn M0 ∧ (seen.toList.Nodup ∧ ∀ q ∈ seen.toList, q < M1.length) ∧ RStep n x (L.drop (j + 1)) M1 seen.toList M0

set_option maxRecDepth 100000 in
set_option maxHeartbeats 8000000 in
theorem reached32 (n : Int) (v : Value) (L : List Int) (w : World) (hv : ElsAt w v L) (hl : L.length ≤ 60) (hn : 2 ≤ n) (hn2 : n ≤ 24) (hL : ∀ x ∈ L, 0 ≤ x ∧ x < n) :
    Calls Tryz.prog 32 #[grpV n, v] w fun e w' => ∃ (b : Nat) (f : Nat → Value), e = .returned (.slice (some ⟨b, 0, none⟩) (L.length + 1) (L.length + 1)) ∧ w.heap.size ≤ b ∧ Blk w' b (rowW f (L.length + 1)) 113 ∧ Maps n L f 0 w' w.heap.size ∧ Below w.heap.size w w' := by
  obtain ⟨a, c, rfl, hva, hlc, hca⟩ := hv
  have hb := ((Below.refl _ w).alloc (Nat.le_refl _) (.cells #[.int .i64 n, .int .i64 1, .int .i64 1] 59)).alloc (by simp) (.cells (rowW (fun _ => .map none) (L.length + 1)) 113)
  have bg := (Blk.new w #[.int .i64 n, .int .i64 1, .int .i64 1] 59).alloc (.cells (rowW (fun _ => .map none) (L.length + 1)) 113)
  have bo : Blk ((w.alloc (.cells #[.int .i64 n, .int .i64 1, .int .i64 1] 59)).alloc (.cells (rowW (fun _ => .map none) (L.length + 1)) 113)) (w.heap.size + 1) (rowW (fun _ => .map none) (L.length + 1)) 113 := Blk.mk' (by simp) rfl
  have hmm := @run_makeMap Tryz.prog
  have hmk := mk62 (L.length + 1) (by omega)
  rw [Int.natCast_add, show ((1 : Nat) : Int) = 1 from rfl] at hmk
  have hw1 : wrap64 ((L.length : Int) + 1) = (L.length : Int) + 1 := by unfold wrap64; omega
  rw [show grpV n = .agg #[.int .i64 n, .int .i64 1, .int .i64 1] from rfl]
  have hsz : ((w.alloc (.cells #[.int .i64 n, .int .i64 1, .int .i64 1] 59)).alloc (.cells (rowW (fun _ => .map none) (L.length + 1)) 113)).heap.size = w.heap.size + 1 + 1 := by simp
  obtain ⟨W3, hup, hM3, o3, ho3⟩ := (MapIs.made (enc := enc3) ((w.alloc (.cells #[.int .i64 n, .int .i64 1, .int .i64 1] 59)).alloc (.cells (rowW (fun _ => .map none) (L.length + 1)) 113))).store kt65 Tryz.underlying113 ((0 : Int), (0 : Int), (0 : Int)) (.bool true)
  rw [hsz] at hup hM3 ho3
  simp only [enc3] at hup
  have g3 : ((w.alloc (.cells #[.int .i64 n, .int .i64 1, .int .i64 1] 59)).alloc (.cells (rowW (fun _ => .map none) (L.length + 1)) 113)).grownBy W3 (some (w.heap.size + 1 + 1)) := (grown_alloc _ (.map #[] 0) _).trans (by rw [ho3]; exact grown_block _ _ _)
  have hb3 : Below w.heap.size w W3 := hb.grown g3 hb.size (by rintro j ⟨⟩; omega)
  have bg3 : Blk W3 w.heap.size #[.int .i64 n, .int .i64 1, .int .i64 1] 59 := (g3.block _ bg.lt (fun e => by simp only [Option.some.injEq] at e; omega)).trans bg
  have bo3 : Blk W3 (w.heap.size + 1) (rowW (fun _ => .map none) (L.length + 1)) 113 := (g3.block _ bo.lt (fun e => by simp only [Option.some.injEq] at e; omega)).trans bo
  have o1 := bo3.rowWat L.length (by omega)
  have o2 := bo3.free L.length
  have bo4 := bo3.rowWput L.length (.map (some (w.heap.size + 1 + 1)))
  have hI : RchI w n L L.length (fun i => if i = L.length then .map (some (w.heap.size + 1 + 1)) else .map none) (W3.setCell ⟨w.heap.size + 1, L.length, none⟩ (.map (some (w.heap.size + 1 + 1)))) := by
    refine ⟨hb3.setCell (by simp) _, bg3.other _ (by simp) _, bo4, fun j h1 h2 => ?_⟩
    have hj : j = L.length := by omega
    subst hj
    exact ⟨w.heap.size + 1 + 1, _, by simp, by omega, hM3.setCell _ (by simp) _, by rw [List.drop_length]; exact RMap.nil n⟩
  have HI := hid hI
  have hlI : (L.length : Int) < (L.length : Int) + 1 := by omega
  clear hI bo4 bo3 bg3 hb3 g3 ho3 hM3 bo bg hb hsz
  go_enter Tryz.func32, Tryz.ntmps32
  go_wp2_with fail
  clear o1 o2 hmk hup
  generalize hW4 : W3.setCell ⟨w.heap.size + 1, L.length, none⟩ (.map (some (w.heap.size + 1 + 1))) = W4 at *
  clear hW4
  have HL := hid hL
  have HVA := hid (And.intro hva hlc)
  clear hL hva
  go_loopw [6] (fun iv W => ∃ (i : Nat) (f : Nat → Value), i ≤ L.length ∧ iv = .int .i64 ((i : Int) - 1) ∧ Hid (RchI w n L i f W)) (fun iv _ => (intOf iv + 1).toNat)
  case atStart => exact ⟨L.length, _, Nat.le_refl _, rfl, HI⟩
  case round =>
    obtain ⟨i, f, hi, rfl, H⟩ := hrel
    by_cases hlt : 0 < i
    · obtain ⟨j, rfl⟩ : ∃ j, i = j + 1 := ⟨i - 1, by omega⟩
      have hjm : ((j + 1 : Nat) : Int) - 1 = (j : Int) := by omega
      rw [hjm]
      clear hjm
      obtain ⟨hB, hG, hO, hM⟩ := H.out
      obtain ⟨b1, M1, hf1, hb1, hm1, hr1⟩ := hM (j + 1) (Nat.le_refl _) hi
      have hne1 : b1 ≠ wr.heap.size := by have := hm1.lt; omega
      have g1 := grown_alloc wr (.map #[] 0) (some wr.heap.size)
      have O1 := hO.alloc (.map #[] 0)
      have p1 := O1.rowWat j (by omega)
      have p2 := O1.free j
      have O2 := O1.rowWput j (.map (some wr.heap.size))
      have p3 := O2.rowWat (j + 1) (by omega)
      rw [if_neg (by omega), hf1] at p3
      have M2 := (hm1.alloc (.map #[] 0)).setCell ⟨w.heap.size + 1, j, none⟩ (by show b1 ≠ w.heap.size + 1; omega) (.map (some wr.heap.size))
      have hrg := M2.range Tryz.underlying113
      have ij : (j : Int) < (L.length : Int) + 1 := by omega
      have ij2 : (j : Int) + 1 < (L.length : Int) + 1 := by omega
      have ij3 : (0 : Int) ≤ (j : Int) + 1 := by omega
      have hjn : ((j : Int) + 1).toNat = j + 1 := by omega
      have H2 := hid (And.intro O2 (And.intro M2 (And.intro hB (And.intro hG (And.intro hM hr1)))))
      clear hB hG hO hM hm1 O1 O2 M2 hr1
      obtain ⟨x, hx, hxd⟩ := list_drop_cons L j (by omega)
      have hxb := HL.out x (List.mem_of_getElem? hx)
      have hmn := MapIs.made (enc := enc3) wr
      have hsz : ((wr.alloc (.map #[] 0)).setCell ⟨w.heap.size + 1, j, none⟩ (.map (some wr.heap.size))).heap.size = wr.heap.size + 1 := by simp
      have hit := IterAt.made ((wr.alloc (.map #[] 0)).setCell ⟨w.heap.size + 1, j, none⟩ (.map (some wr.heap.size))) b1 M1.length
      rw [hsz] at hit
      have hwl : w.heap.size + 1 < wr.heap.size := by have := H.out.2.2.1.lt; exact this
      have HJ := hid (show RchJ w n L j wr.heap.size b1 f x M1 #[] [] (((wr.alloc (.map #[] 0)).setCell ⟨w.heap.size + 1, j, none⟩ (.map (some wr.heap.size))).alloc (.mapIter (some b1) M1.length #[] M1.length)) by
        obtain ⟨O2, M2, hB, hG, hM, hr1⟩ := H2.out
        have ga : wr.grownBy (((wr.alloc (.map #[] 0)).setCell ⟨w.heap.size + 1, j, none⟩ (.map (some wr.heap.size))).alloc (.mapIter (some b1) M1.length #[] M1.length)) (some (w.heap.size + 1)) :=
          ((grown_alloc wr _ _).trans (grownBy_set _ _ _ _)).trans (grown_alloc _ _ _)
        refine ⟨?_, ?_, O2.alloc _, hM.grown ga ?_, M2.alloc _, hit, (hmn.setCell _ ?_ _).alloc _, ⟨by simp, by simp⟩, RStep.start n x _ M1⟩
        · exact hB.grown ga hB.size (by rintro k ⟨⟩; omega)
        · exact (ga.block _ hG.lt (fun e => by simp only [Option.some.injEq] at e; omega)).trans hG
        · intro j' h1 h2 b hb e
          obtain ⟨b', M', e1, e2, -, -⟩ := hM j' h1 h2
          rw [hb] at e1
          simp only [Value.map.injEq, Option.some.injEq] at e1 e
          omega
        · show wr.heap.size ≠ w.heap.size + 1; omega)
      have HXD := hid (And.intro hxd (And.intro hx hxb))
      have hfb : ∀ j', j + 1 ≤ j' → j' ≤ L.length → ∀ b, f j' = .map (some b) → b < wr.heap.size := fun j' h1 h2 b hb => by
        obtain ⟨b', M', e1, -, e3, -⟩ := H2.out.2.2.2.2.1 j' h1 h2
        rw [hb] at e1
        simp only [Value.map.injEq, Option.some.injEq] at e1
        rw [e1]; exact e3.lt
      have HR1 := hid H2.out.2.2.2.2.2
      obtain ⟨bn, hbn⟩ : ∃ bn, bn = wr.heap.size := ⟨_, rfl⟩
      rw [← hbn] at HJ hwl hfb
      have HFB := hid (And.intro hfb (hfb (j + 1) (Nat.le_refl _) hi b1 hf1))
      clear hfb
      clear hx hxd hxb hmn hit hsz hne1 g1
      go_wp2_with fail
      rw [← hbn]
      clear hbn
      go_loopw [36] (fun _ W => ∃ (seen : Array Nat) (M0 : List ((Int × Int × Int) × Value)), Hid (RchJ w n L j bn b1 f x M1 seen M0 W)) (fun _ W => M1.length - seenN W (bn + 1))
      case atStart => exact ⟨#[], [], HJ⟩
      case round =>
        obtain ⟨seen, M0, HK⟩ := hrel
        have hnxt := MapIs.next (P := Tryz.prog) HK.out.2.2.2.2.1 HK.out.2.2.2.2.2.1 0
        rcases hnxt with ⟨hall, hnx⟩ | ⟨q, key, v, w6, hq, hnq, hget, hw6, hnx, hit6, hm6, hent⟩
        · have hdone := HK.out.2.2.2.2.2.2.2.2.done HR1.out hall
          have HN := hid (show RchI w n L j (fun i => if i = j then .map (some bn) else f i) wr by
            obtain ⟨k1, k2, k3, k4, -, -, k7, -, -⟩ := HK.out
            refine ⟨k1, k2, k3, fun j' h1 h2 => ?_⟩
            by_cases hjj : j' = j
            · subst hjj
              exact ⟨bn, M0, by simp, by omega, k7, by rw [HXD.out.1]; exact hdone⟩
            · obtain ⟨b', M', e1, e2, e3, e4⟩ := k4 j' (by omega) h2
              exact ⟨b', M', by simp only [if_neg hjj]; exact e1, e2, e3, e4⟩)
          have hwj := less_wrap j (by omega)
          clear hdone hall
          go_wp2_with fail
          exact ⟨⟨j, _, by omega, by go_num, HN⟩, by simp [intOf]⟩
        · obtain ⟨rfl, m, s, rfl, hrs⟩ := HR1.out.entry q key v hget
          have hrg2 := hrs.range (by omega)
          rw [List.length_drop] at hrg2
          have hm60 : m ≤ 60 := by omega
          have g6 : wr.grownBy w6 (some (bn + 1)) := by
            obtain ⟨w0, h0, rfl⟩ := hw6
            rcases h0 with rfl | rfl
            · exact grown_block _ _ _
            · exact (grown_drewN wr 1 _).trans (grown_block _ _ _)
          obtain ⟨k1, k2, k3, k4, k5, k6, k7, k8, k9⟩ := HK.out
          have kne : b1 ≠ bn + 1 ∧ bn ≠ bn + 1 ∧ bn + 1 ≠ w.heap.size ∧ bn + 1 ≠ w.heap.size + 1 := by
            refine ⟨fun e => ?_, by omega, by omega, by omega⟩
            unfold MapIs at k5; unfold IterAt at k6
            rw [e, k6] at k5; cases k5
          -- the key's box
          have ga := g6.trans (grown_alloc w6 (.cells #[.int .i64 m, .int .i64 s, .int .i64 0] 65) (some (bn + 1)))
          have Kb := Blk.new w6 #[.int .i64 (m : Int), .int .i64 s, .int .i64 0] 65
          have a1 := k1.grown ga k1.size (by rintro i ⟨⟩; omega)
          have a2 : Blk (w6.alloc (.cells #[.int .i64 m, .int .i64 s, .int .i64 0] 65)) w.heap.size #[.int .i64 n, .int .i64 1, .int .i64 1] 59 := (ga.block _ k2.lt (fun e => by simp only [Option.some.injEq] at e; omega)).trans k2
          have a3 : Blk (w6.alloc (.cells #[.int .i64 m, .int .i64 s, .int .i64 0] 65)) (w.heap.size + 1) (rowW (fun i => if i = j then .map (some bn) else f i) (L.length + 1)) 113 := (ga.block _ k3.lt (fun e => by simp only [Option.some.injEq] at e; omega)).trans k3
          have a7 : MapIs enc3 (w6.alloc (.cells #[.int .i64 m, .int .i64 s, .int .i64 0] 65)) bn M0 := (ga.block _ k7.lt (fun e => by simp only [Option.some.injEq] at e; omega)).trans k7
          have a5 := hm6.alloc (.cells #[.int .i64 m, .int .i64 s, .int .i64 0] 65)
          have a6 : IterAt (w6.alloc (.cells #[.int .i64 m, .int .i64 s, .int .i64 0] 65)) (bn + 1) b1 M1.length (seen.push q) := (Below.heap_alloc w6 _ _ (by have := hit6.lt; exact this)).trans hit6
          have a4 : Maps n L f (j + 1) (w6.alloc (.cells #[.int .i64 m, .int .i64 s, .int .i64 0] 65)) (w.heap.size + 2) := k4.grown ga (fun j' h1 h2 b hb e => by
            obtain ⟨b', M', e1, e2, e3, -⟩ := k4 j' h1 h2
            rw [hb] at e1
            simp only [Value.map.injEq, Option.some.injEq] at e1 e
            subst e1
            unfold MapIs at e3; unfold IterAt at k6
            rw [← e, k6] at e3; cases e3)
          simp only [enc3] at hnx hent
          obtain ⟨w7, hup7, m7, o7, ho7⟩ := (show MapIs enc3 (w6.alloc (.cells #[.int .i64 m, .int .i64 s, .int .i64 0] 65)).drew bn M0 from a7).store kt65 Tryz.underlying113 ((m : Int), s, (0 : Int)) (.bool true)
          simp only [enc3] at hup7
          have c1 := a3.rowWat j (by omega)
          rw [if_pos rfl] at c1
          have c2 := Kb.cell 0
          have c3 := Kb.cell 1
          have c4 := Kb.cell 2
          have HA := hid (And.intro a1 (And.intro a2 (And.intro a3 (And.intro a4 (And.intro a5 (And.intro a6 (And.intro k8 k9)))))))
          have HKb := hid (And.intro Kb (And.intro hget (And.intro hrs (And.intro hnq hq))))
          have HM7 := hid (And.intro m7 ho7)
          have ij := (show (j : Int) < (L.length : Int) + 1 by omega)
          have HKBL := hid (show bn < w6.heap.size from Nat.lt_of_lt_of_le k7.lt g6.size)
          clear a1 a2 a3 a4 a5 a6 a7 k1 k2 k3 k4 k5 k6 k7 k8 k9 Kb m7 ho7 hw6 hm6 hit6 hget hrs hq hnq ga g6
          go_wp2_with fail
          go_region
          obtain ⟨kb, hkb⟩ : ∃ kb, kb = w6.heap.size := ⟨_, rfl⟩
          have hkbn : kb ≠ bn := by have := HK.out.2.2.2.2.2.2.1.lt; have := HKBL.out; omega
          have g7 : (w6.alloc (.cells #[.int .i64 m, .int .i64 s, .int .i64 0] 65)).grownBy w7 (some bn) := (grown_drewN _ 1 _).trans (by rw [HM7.out.2]; exact grown_block _ _ _)
          have d1 := HA.out.1.grown g7 HA.out.1.size (by rintro i ⟨⟩; omega)
          have d2 : Blk w7 w.heap.size #[.int .i64 n, .int .i64 1, .int .i64 1] 59 := (g7.block _ HA.out.2.1.lt (fun e => by simp only [Option.some.injEq] at e; omega)).trans HA.out.2.1
          have d3 : Blk w7 (w.heap.size + 1) (rowW (fun i => if i = j then .map (some bn) else f i) (L.length + 1)) 113 := (g7.block _ HA.out.2.2.1.lt (fun e => by simp only [Option.some.injEq] at e; omega)).trans HA.out.2.2.1
          have dk : Blk w7 kb #[.int .i64 (m : Int), .int .i64 s, .int .i64 0] 65 := by
            rw [hkb] at hkbn ⊢
            exact (g7.block _ HKb.out.1.lt (fun e => hkbn (by cases e; rfl))).trans HKb.out.1
          rw [← hkb]
          clear hkb
          have hjl : j < L.length := by omega
          obtain ⟨gv, ov, rfl, hgv, hcv⟩ : ∃ gv ov, a = some ⟨gv, ov, none⟩ ∧ gv < w.heap.size ∧ ∀ i u, (elF L)[i]? = some u → w.cell? ⟨gv, ov + i, none⟩ = some u := by
            rcases HVA.out.1 with h | ⟨g, o, h1, h2, h3⟩
            · have := elF_len L
              rw [h] at this
              simp at this
              omega
            · exact ⟨g, o, h1, h2, h3⟩
          obtain ⟨v1, v2⟩ := elF_at L j x HXD.out.2.1
          have v1 := hcv _ _ v1
          have v2 := hcv _ _ v2
          rw [← Nat.add_assoc] at v2
          have SS := hid (show ∀ W, w7.grownBy W (some bn) → (W.cell? ⟨w.heap.size + 1, j, none⟩ = some (.map (some bn)) ∧ W.cell? ⟨kb, 0, none⟩ = some (.int .i64 (m : Int)) ∧ W.cell? ⟨kb, 1, none⟩ = some (.int .i64 s) ∧ W.cell? ⟨kb, 2, none⟩ = some (.int .i64 0) ∧ W.cell? ⟨w.heap.size, 0, none⟩ = some (.int .i64 n) ∧ W.cell? ⟨w.heap.size, 1, none⟩ = some (.int .i64 1) ∧ W.cell? ⟨w.heap.size, 2, none⟩ = some (.int .i64 1) ∧ W.cell? ⟨gv, ov + j * 2, none⟩ = some (.int .i64 x) ∧ W.cell? ⟨gv, ov + j * 2 + 1, none⟩ = some (.int .i64 0)) ∧ Below w.heap.size w W ∧ Blk W w.heap.size #[.int .i64 n, .int .i64 1, .int .i64 1] 59 ∧ Blk W (w.heap.size + 1) (rowW (fun i => if i = j then .map (some bn) else f i) (L.length + 1)) 113 from fun W hg => by
            have hw := d1.grown hg d1.size (by rintro i ⟨⟩; omega)
            have f3 : Blk W (w.heap.size + 1) (rowW (fun i => if i = j then .map (some bn) else f i) (L.length + 1)) 113 := (hg.block _ d3.lt (fun e => by simp only [Option.some.injEq] at e; omega)).trans d3
            have e3 := f3.rowWat j (by omega)
            rw [if_pos rfl] at e3
            have ek : Blk W kb #[.int .i64 (m : Int), .int .i64 s, .int .i64 0] 65 := (hg.block _ dk.lt (fun e => hkbn (by cases e; rfl))).trans dk
            have eg : Blk W w.heap.size #[.int .i64 n, .int .i64 1, .int .i64 1] 59 := (hg.block _ d2.lt (fun e => by simp only [Option.some.injEq] at e; omega)).trans d2
            exact ⟨⟨e3, ek.cell 0, ek.cell 1, ek.cell 2, eg.cell 0, eg.cell 1, eg.cell 2, (hw.cell (p := ⟨gv, ov + j * 2, none⟩) hgv).trans v1, (hw.cell (p := ⟨gv, ov + j * 2 + 1, none⟩) hgv).trans v2⟩, hw, eg, f3⟩)
          have C := hid (show Calls Tryz.prog 63 #[.agg #[.int .i64 n, .int .i64 1, .int .i64 1], .agg #[.int .i64 s, .int .i64 0], .agg #[.int .i64 x, .int .i64 0]] w7.drew (RetB (.agg #[.int .i64 ((s + x) % n), .int .i64 0]) w7.drew) from add63 n s x _ rfl w7.drew hn hn2 hrg2.1 hrg2.2.1 HXD.out.2.2.1 HXD.out.2.2.2)
          have GW := hid (fun (w8 : World) (hb8 : Below w7.drew.heap.size w7.drew w8) => (⟨hb8.os, hb8.tape, hb8.output, hb8.size, fun k hk _ => hb8.block k hk⟩ : w7.grownBy w8 (some bn)))
          have hmw := wrap_up m (by omega)
          have il : (j : Int) < (L.length : Int) := by omega
          have MS := hid (fun (w8 : World) (hb8 : Below w7.drew.heap.size w7.drew w8) => (MapIs.store (show MapIs enc3 w8 bn _ from HM7.out.1.below (w := w7.drew) hb8 (by exact HM7.out.1.lt)) kt65 Tryz.underlying113 ((m : Int) + 1, (s + x) % n, (0 : Int)) (.bool true)))
          have S7 := (SS.out w7.drew (grown_drewN w7 1 _)).1
          have G7 := hid g7
          clear d1 d2 d3 dk g7 v1 v2 hcv hkbn c1 c2 c3 c4 hup7 hnx hent
          go_wp2_with fail
          go_region_held3 (fun W => W.cell? ⟨w.heap.size + 1, j, none⟩ = some (.map (some bn)) ∧ W.cell? ⟨kb, 0, none⟩ = some (.int .i64 (m : Int)) ∧ W.cell? ⟨kb, 1, none⟩ = some (.int .i64 s) ∧ W.cell? ⟨kb, 2, none⟩ = some (.int .i64 0) ∧ W.cell? ⟨w.heap.size, 0, none⟩ = some (.int .i64 n) ∧ W.cell? ⟨w.heap.size, 1, none⟩ = some (.int .i64 1) ∧ W.cell? ⟨w.heap.size, 2, none⟩ = some (.int .i64 1) ∧ W.cell? ⟨gv, ov + j * 2, none⟩ = some (.int .i64 x) ∧ W.cell? ⟨gv, ov + j * 2 + 1, none⟩ = some (.int .i64 0)) (first | exact S7 | exact S8 | exact S9 | go_keep) (first | (go_at_call 63; refine C.out.mono ?_; rintro e w8 ⟨rfl, hb8⟩; have S8 := (SS.out w8 (GW.out w8 hb8)).1; obtain ⟨w9, hup9, m9, o9, ho9⟩ := MS.out w8 hb8; simp only [enc3] at hup9; have g9 : w7.grownBy w9 (some bn) := (GW.out w8 hb8).trans (by rw [ho9]; exact grown_block _ _ _); have S9 := (SS.out w9 g9).1; have HM9 := hid (And.intro m9 g9); clear m9 ho9))
          have g79 : (w6.alloc (.cells #[.int .i64 m, .int .i64 s, .int .i64 0] 65)).grownBy w9 (some bn) := G7.out.trans HM9.out.2
          obtain ⟨u1, u2, u3, u4, u5, u6, u7, u8⟩ := HA.out
          obtain ⟨-, w1', w2', w3'⟩ := SS.out w9 HM9.out.2
          have hnd : (seen.push q).toList.Nodup ∧ ∀ j' ∈ (seen.push q).toList, j' < M1.length := by
            rw [Array.toList_push]
            refine ⟨List.nodup_append.2 ⟨u7.1, by simp, ?_⟩, ?_⟩
            · intro a ha b hb e
              simp at hb
              subst hb e
              exact HKb.out.2.2.2.1 ha
            · intro j' hj'
              rcases List.mem_append.1 hj' with hj' | hj'
              · exact u7.2 j' hj'
              · simp at hj'; rw [hj']; exact HKb.out.2.2.2.2
          have hlen := nodup_len M1.length _ hnd.1 hnd.2
          rw [Array.toList_push, List.length_append, List.length_singleton, Array.length_toList] at hlen
          have hi9 : IterAt w9 (bn + 1) b1 M1.length (seen.push q) := (g79.block _ u6.lt (fun e => by simp only [Option.some.injEq] at e; omega)).trans u6
          have hse1 := HK.out.2.2.2.2.2.1.seenN
          have hse2 := hi9.seenN
          rw [Array.size_push] at hse2
          have hst := u8.step q m s HKb.out.2.1 HKb.out.2.2.1
          rw [Int.natCast_add, show ((1 : Nat) : Int) = 1 from rfl] at hst
          have HE := hid (show RchJ w n L j bn b1 f x M1 (seen.push q) (put ((m : Int) + 1, (s + x) % n, (0 : Int)) (.bool true) (put ((m : Int), s, (0 : Int)) (.bool true) M0)) w9 from
            ⟨w1', w2', w3', u4.grown g79 (fun j' h1 h2 b hb e => by have := HFB.out.1 j' h1 h2 b hb; simp only [Option.some.injEq] at e; omega),
              (g79.block b1 u5.lt (fun e => by have := HFB.out.2; simp only [Option.some.injEq] at e; omega)).trans u5, hi9, HM9.out.1, hnd, by rw [Array.toList_push]; exact hst⟩)
          have HME := hid (show M1.length - seenN w9 (bn + 1) < M1.length - seenN wr (bn + 1) by rw [hse1, hse2]; omega)
          clear g79 u1 u2 u3 u4 u5 u6 u7 u8 w1' w2' w3' hnd hlen hi9 hse1 hse2 hst hmw
          go_wp2_with fail
          exact ⟨⟨seen.push q, _, HE⟩, HME.out⟩
    · have hi0 : i = 0 := by omega
      subst hi0
      have HF := hid H.out
      go_wp2_with fail
      go_ret
      obtain ⟨h1, -, h3, h4⟩ := HF.out
      exact ⟨w.heap.size + 1, f, rfl, by omega, h3, fun j hj1 hj2 => by
        obtain ⟨b, M, e1, e2, e3, e4⟩ := h4 j hj1 hj2
        exact ⟨b, M, e1, by omega, e3, e4⟩, h1⟩

end Go.Proofs.YtkmpdcckgibkhaaGreat
