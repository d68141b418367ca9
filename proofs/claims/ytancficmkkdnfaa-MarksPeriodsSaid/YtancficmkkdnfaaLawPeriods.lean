/-
  The law MarksPeriods, walked.
-/
import Derived.Test.YtancficmkkdnfaaPers
import Derived.Test.YtancficmkkdnfaaRowB
import Derived.Deep.RegionHeld3
namespace Go.Proofs.Ytancficmkkdnfaa
open Go.RowKit
attribute [local go_sem] Oper.semAt_some

theorem word_of' (l : List UInt8) (h : overB 4 l = true) (hl : l.length ≤ 120) : wordB l = true := by
  rw [wordB, h]; simp [hl]
theorem Try.info4 : (Try.prog.info? 4).map (fun i => (i.zero, i.size, i.bytes)) = some (some (.bool false), 1, 1) := by kernel_rfl
theorem perL_at (l : List UInt8) (i : Nat) (h : i < (perL l).length) : IsP l l.length (perL l)[i] := (mem_perL l _).1 (List.getElem_mem h)
theorem perL_lt (l : List UInt8) (i j : Nat) (hij : i < j) (hj : j < (perL l).length) : (perL l)[i]'(by omega) < (perL l)[j] :=
  List.pairwise_iff_getElem.1 (perL_sorted l) i j (by omega) hj hij
theorem perL_pos (l : List UInt8) (h : 0 < l.length) : 0 < (perL l).length :=
  List.length_pos_of_mem ((mem_perL l _).2 (isP_all l l.length h))
theorem perL_end (l : List UInt8) (h : 0 < l.length) : (perL l)[(perL l).length - 1]'(by have := perL_pos l h; omega) = l.length := by
  have hp := perL_pos l h
  obtain ⟨i, hi, he⟩ := List.getElem_of_mem ((mem_perL l _).2 (isP_all l l.length h))
  rcases Nat.lt_or_ge i ((perL l).length - 1) with h1 | h1
  · have h2 := perL_lt l i ((perL l).length - 1) h1 (by omega)
    have h3 := (perL_at l ((perL l).length - 1) (by omega)).2.1
    omega
  · have : i = (perL l).length - 1 := by omega
    subst this; exact he
/-- Is it a period? -/
def isB (L : List Nat) (j : Nat) : Bool := L.contains j
theorem isB_snoc (L : List Nat) (i : Nat) (h : i < L.length) (j : Nat) : isB (L.take (i + 1)) j = if j = L[i] then true else isB (L.take i) j := by
  unfold isB
  rw [List.take_add_one, List.getElem?_eq_getElem h]
  simp only [Option.toList_some, List.contains_eq_mem, List.mem_append, List.mem_singleton]
  by_cases hj : j = L[i] <;> simp [hj]

theorem cellLt {w : World} {b o : Nat} {v : Value} (h : w.cell? ⟨b, o, none⟩ = some v) : b < w.heap.size := by
  rcases Nat.lt_or_ge b w.heap.size with h1 | h1
  · exact h1
  · simp [World.cell?, Array.getElem?_eq_none h1] at h
theorem after_alloc {w5 w6 : World} (hb : Below ((w5.alloc (.cells #[.int .i64 0, .int .i64 0] 24)).drew).heap.size ((w5.alloc (.cells #[.int .i64 0, .int .i64 0] 24)).drew) w6) :
    w6.cell? ⟨w5.heap.size, 0, none⟩ = some (.int .i64 0) ∧ w6.cell? ⟨w5.heap.size, 1, none⟩ = some (.int .i64 0) ∧ w6.frozen? ⟨w5.heap.size, 0, none⟩ = false ∧ w6.frozen? ⟨w5.heap.size, 1, none⟩ = false := by
  have h : Blk w6 w5.heap.size #[.int .i64 0, .int .i64 0] 24 := (hb.block w5.heap.size (by show _ < (w5.alloc _).heap.size; simp)).trans (Blk.new w5 _ _)
  exact h.pair
theorem in_alloc {w5 w6 : World} (N D : Int) (hb : Below ((w5.alloc (.cells #[.int .i64 0, .int .i64 0] 24)).drew).heap.size ((w5.alloc (.cells #[.int .i64 0, .int .i64 0] 24)).drew) w6) :
    Blk ((w6.setCell ⟨w5.heap.size, 0, none⟩ (.int .i64 N)).setCell ⟨w5.heap.size, 1, none⟩ (.int .i64 D)) w5.heap.size #[.int .i64 N, .int .i64 D] 24 ∧
    Below w5.heap.size w5 ((w6.setCell ⟨w5.heap.size, 0, none⟩ (.int .i64 N)).setCell ⟨w5.heap.size, 1, none⟩ (.int .i64 D)) := by
  have h : Blk w6 w5.heap.size #[.int .i64 0, .int .i64 0] 24 := (hb.block w5.heap.size (by show _ < (w5.alloc _).heap.size; simp)).trans (Blk.new w5 _ _)
  have h0 : Below w5.heap.size w5 ((w5.alloc (.cells #[.int .i64 0, .int .i64 0] 24)).drew) := ((Below.refl _ w5).alloc (Nat.le_refl _) _).drew
  exact ⟨(h.set 0 (.int .i64 N)).set 1 (.int .i64 D), ((h0.trans (hb.mono h0.size)).setCell (Nat.le_refl _) _).setCell (Nat.le_refl _) _⟩
theorem out_alloc {w5 w6 : World} (N D : Int) (hb : Below w5.drew.heap.size w5.drew w6) :
    Blk (w6.alloc (.cells #[.int .i64 N, .int .i64 D] 24)) w6.heap.size #[.int .i64 N, .int .i64 D] 24 ∧ Below w5.heap.size w5 (w6.alloc (.cells #[.int .i64 N, .int .i64 D] 24)) := by
  have h0 : Below w5.heap.size w5 w6 := (Below.refl _ w5).drew.trans hb
  exact ⟨Blk.new _ _ _, h0.alloc h0.size _⟩
/-- What the law knows of the list of periods. -/
structure PL (l : List UInt8) (A : Nat → Nat) (NL : Nat) : Prop where
  pos : 0 < NL
  len : NL = (perL l).length
  le : NL ≤ l.length
  get : ∀ i, i < NL → (perL l)[i]? = some (A i)
  per : ∀ i, i < NL → IsP l l.length (A i)
  lt : ∀ i j, i < j → j < NL → A i < A j
  last : A (NL - 1) = l.length
  mem : ∀ j, IsP l l.length j → isB (perL l) j = true
  snoc : ∀ i, i < NL → ∀ j, isB ((perL l).take (i + 1)) j = if j = A i then true else isB ((perL l).take i) j
theorem PL.make (l : List UInt8) (h : 0 < l.length) : PL l (fun i => (perL l).getD i 0) (perL l).length := by
  have hp := perL_pos l h
  have hg : ∀ i (hi : i < (perL l).length), (perL l).getD i 0 = (perL l)[i] := fun i hi => by simp [List.getD, List.getElem?_eq_getElem hi]
  exact {
    pos := hp
    len := rfl
    le := perL_len l
    get := fun i hi => by rw [hg i hi]; exact List.getElem?_eq_getElem hi
    per := fun i hi => by rw [hg i hi]; exact perL_at l i hi
    lt := fun i j hij hj => by rw [hg i (by omega), hg j hj]; exact perL_lt l i j hij hj
    last := by rw [hg _ (by omega)]; exact perL_end l h
    mem := fun j hj => by unfold isB; rw [List.contains_iff_mem]; exact (mem_perL l j).2 hj
    snoc := fun i hi j => by rw [hg i hi]; exact isB_snoc _ i hi j }
/-- A row of numbers, read. -/
theorem nat_at {w : World} {a : Option Addr} {L : List Nat} (h : Vals w a (L.map natV)) (hL : 0 < L.length) : ∃ g o, a = some ⟨g, o, none⟩ ∧ g < w.heap.size ∧ ∀ i (hi : i < L.length), w.cell? ⟨g, o + i, none⟩ = some (.int .i64 (L[i] : Int)) := by
  rcases h with h | ⟨g, o, rfl, hg, hc⟩
  · have : L = [] := by simpa using h
    subst this; simp at hL
  · exact ⟨g, o, rfl, hg, fun i hi => hc i _ (by rw [List.getElem?_map, List.getElem?_eq_getElem hi]; rfl)⟩

set_option maxRecDepth 100000 in
set_option maxHeartbeats 4000000 in
theorem periods_walk (s0 : ByteArray) (w : World) (hs : s0.size ≤ maxLen) : Calls Try.prog 11 #[.string s0] w fun e w' => e = .returned (.bool true) ∧ Below w.heap.size w w' := by
  have hmx : maxLen ≤ 9223372036854775807 := by decide
  have TA := fun W => hid (tame_any s0 120 4 W (by omega) (by omega) (by omega) (by omega))
  have hov := tame_over 120 4 s0.data.toList (by omega) (by omega)
  have hln := tame_len 120 4 s0.data.toList
  obtain ⟨l, hl⟩ : ∃ l, l = tameL 120 4 s0.data.toList := ⟨_, rfl⟩
  rw [← hl] at TA hov hln
  have PE := fun W => hid (Periods_yes (mkS l) W (word_of' l hov hln))
  rw [mkS_data] at PE
  have hls := mkS_size l
  have hll := perL_len l
  by_cases h0 : l.length = 0
  · have hL0 : perL l = [] := List.eq_nil_of_length_eq_zero (by omega)
    have hmk2 : ∀ W : World, (Instr.makeSlice 65 (.int .i64 1) (.int .i64 1)).run Try.prog W = .ok (.slice (some ⟨W.heap.size, 0, none⟩) 1 1) (W.alloc (.cells (rowB (fun _ => false) 1) 4)) := by
      intro W
      have hmk := run_make_row' (P := Try.prog) 65 4 (.bool false) 1 Try.underlying65 Try.info4 rfl .i64 .i64 1 (by omega) (by omega) W
      rw [← rowB_made]; exact hmk
    rw [hL0] at PE
    have hse := empty_yes (mkS l) (by omega)
    have hz : (mkS l).size = 0 := by omega
    clear hl hov hln hL0 hll hls
    go_enter Try.func11, Try.ntmps11
    go_wp2_with fail
    refine (TA _).out.mono ?_
    rintro e w1 ⟨rfl, hb1⟩
    go_wp2_with fail
    refine (PE _).out.mono ?_
    rintro e w2 ⟨a, c, rfl, ho, hb2⟩
    replace hb2 := hb1.trans (hb2.mono hb1.size)
    clear ho
    go_wp2_with fail
    have hb3 : Below w.heap.size w (w2.alloc (.cells (rowB (fun _ => false) 1) 4)) := hb2.alloc hb2.size _
    go_loopw [7] (fun i wr => i = .int .i64 0 ∧ Below w.heap.size w wr) (fun _ _ => 0)
    case atStart => exact ⟨rfl, hb3⟩
    case round =>
      obtain ⟨rfl, hB⟩ := hrel
      go_wp2_with fail
      go_loopw [8] (fun i wr => i = .int .i64 0 ∧ Below w.heap.size w wr) (fun _ _ => 0)
      case atStart => exact ⟨rfl, hB⟩
      case round =>
        obtain ⟨rfl, hB⟩ := hrel
        go_wp2_with fail
        refine (awake_any _).mono ?_
        rintro e w9 ⟨rfl, hb9⟩
        go_wp2_with fail
        go_ret
        exact ⟨rfl, hB.trans (hb9.mono hB.size)⟩
  · have hpos : 0 < l.length := by omega
    have F := PL.make l hpos
    obtain ⟨A, hA⟩ : ∃ A : Nat → Nat, A = fun i => (perL l).getD i 0 := ⟨_, rfl⟩
    obtain ⟨NL, hNL⟩ : ∃ NL, NL = (perL l).length := ⟨_, rfl⟩
    rw [← hA, ← hNL] at F
    have HF := hid F
    obtain ⟨n, hn⟩ : ∃ n, n = l.length := ⟨_, rfl⟩
    rw [← hn] at hln hls hll hpos h0
    have hend : A (NL - 1) = n := F.last.trans hn.symm
    have HN := hid hn
    have hNLp := F.pos
    have hNL120 : NL ≤ 120 := by have := F.le; omega
    have HNL := hid hNL
    have hmk2 : ∀ W : World, (Instr.makeSlice 65 (.int .i64 ((n : Int) + 1)) (.int .i64 ((n : Int) + 1))).run Try.prog W = .ok (.slice (some ⟨W.heap.size, 0, none⟩) (n + 1) (n + 1)) (W.alloc (.cells (rowB (fun _ => false) (n + 1)) 4)) := by
      intro W
      have hmk := run_make_row' (P := Try.prog) 65 4 (.bool false) 1 Try.underlying65 Try.info4 rfl .i64 .i64 (n + 1) (by omega) (by omega) W
      rw [← rowB_made, show ((n : Int) + 1) = ((n + 1 : Nat) : Int) by omega]; exact hmk
    have hse := empty_no (mkS l) (by omega)
    have d1 : ((NL : Int) == 0) = false := beq_eq_false_iff_ne.2 (by omega)
    have d2 : decide ((NL : Int) > (n : Int)) = false := decide_eq_false (by have := F.le; omega)
    have d3 : decide ((NL : Int) > 0) = true := decide_eq_true (by omega)
    have d2' : decide (n < NL) = false := decide_eq_false (by have := F.le; omega)
    have d4 : ((n : Int) != (n : Int)) = false := by simp
    have HE := hid hend
    clear hl hov h0 hend hn hNL hll F hA
    go_enter Try.func11, Try.ntmps11
    go_wp2_with fail
    refine (TA _).out.mono ?_
    rintro e w1 ⟨rfl, hb1⟩
    go_wp2_with fail
    refine (PE _).out.mono ?_
    rintro e w2 ⟨a, c, rfl, ho, hb2⟩
    replace hb2 := hb1.trans (hb2.mono hb1.size)
    obtain ⟨g, o, rfl, hg, hcell⟩ : ∃ g o, a = some ⟨g, o, none⟩ ∧ g < w2.heap.size ∧ ∀ i, i < NL → w2.cell? ⟨g, o + i, none⟩ = some (.int .i64 (A i : Int)) := by
      rcases (own_vals ho.out).1 with h | ⟨g, o, rfl, hg, hc⟩
      · have h2 : perL l = [] := by simpa using h
        have := HF.out.pos; rw [HF.out.len, h2] at this; simp at this
      · exact ⟨g, o, rfl, hg, fun i hi => hc i _ (by rw [List.getElem?_map, HF.out.get i hi]; rfl)⟩
    have HC := hid hcell
    have q1 : w2.cell? ⟨g, o + (NL - 1), none⟩ = some (.int .i64 (n : Int)) := by
      rw [hcell (NL - 1) (by omega), HE.out]
    rw [← HNL.out]
    clear ho hcell hb1
    go_wp2_with fail
    have HCB := hid (fun (wr : World) (hB : Below w2.heap.size w2 wr) i (hi : i < NL) => (hB.cell (p := ⟨g, o + i, none⟩) hg).trans (HC.out i hi))
    have HB2 := hid hb2
    have hbk : Blk (w2.alloc (.cells (rowB (fun _ => false) (n + 1)) 4)) w2.heap.size (rowB (isB ((perL l).take 0)) (n + 1)) 4 := by
      have := Blk.new w2 (rowB (fun _ => false) (n + 1)) 4
      rwa [rowB_congr (f := fun _ => false) (g := isB ((perL l).take 0)) (fun i _ => by simp [isB])] at this
    have HBK := hid hbk
    clear hbk hb2 q1 d1 d2 d2' d3 d4 hmk2
    go_loopw [7] (fun v wr => ∃ i : Nat, i ≤ NL ∧ v = .int .i64 i ∧ Below w2.heap.size w2 wr ∧ Hid (Blk wr w2.heap.size (rowB (isB ((perL l).take i)) (n + 1)) 4)) (fun v _ => NL - (intOf v).toNat)
    case atStart => exact ⟨0, by omega, rfl, (Below.refl _ w2).alloc (Nat.le_refl _) _, HBK⟩
    case round =>
      obtain ⟨i, hi, rfl, hB, HK⟩ := hrel
      by_cases hlt : i < NL
      · have q1 := HCB.out wr hB i hlt
        obtain ⟨x1, x2, -⟩ := HF.out.per i hlt
        have hlast : ∀ j, j < i → A j < A i := fun j hj => HF.out.lt j i hj hlt
        have hsn := HF.out.snoc i hlt
        obtain ⟨x, hx⟩ : ∃ x, x = A i := ⟨_, rfl⟩
        rw [← hx] at q1 x1 x2 hlast
        simp only [← hx] at hsn
        rw [← HN.out] at x2
        have hput := HK.out.rowPutB (g := isB ((perL l).take (i + 1))) x true (fun j _ => hsn j)
        have f1 := HK.out.free x
        have f2 := HK.out.rowBt x (by omega)
        have HP := hid hput
        have e1 : decide ((x : Int) < 1) = false := decide_eq_false (by omega)
        have e2 : decide ((x : Int) > (n : Int)) = false := decide_eq_false (by omega)
        have e1' : decide (x < 1) = false := decide_eq_false (by omega)
        have e2' : decide (n < x) = false := decide_eq_false (by omega)
        have HL2 := hid hlast
        clear hput hsn hlast hx HK
        rcases Nat.eq_zero_or_pos i with h0 | h0
        · subst h0
          have q1' : wr.cell? ⟨g, o, none⟩ = some (.int .i64 (x : Int)) := q1
          go_wp2_with fail
          go_quiet (fail)
          go_wp2_with fail
          exact ⟨⟨1, by omega, by go_num, (below_drewN hB nq).setCell (Nat.le_refl _) _, HP.out⟩, by simp [intOf]; omega⟩
        · have q0 := HCB.out wr hB (i - 1) (by omega)
          have e3 : decide ((i : Int) > 0) = true := decide_eq_true (by omega)
          have hya := HL2.out (i - 1) (by omega)
          obtain ⟨y, hy⟩ : ∃ y, y = A (i - 1) := ⟨_, rfl⟩
          rw [← hy] at q0 hya
          have e4 : decide ((y : Int) ≥ (x : Int)) = false := decide_eq_false (by omega)
          have e5 : ((i : Int) - 1).toNat = i - 1 := by omega
          have e3' : decide (0 < i) = true := decide_eq_true h0
          have e4' : decide (x ≤ y) = false := decide_eq_false (by omega)
          have e6 : (0 : Int) ≤ (i : Int) - 1 := by omega
          have e7 : (i : Int) - 1 < (NL : Int) := by omega
          clear hy
          go_wp2_with fail
          go_quiet (fail)
          go_wp2_with fail
          exact ⟨⟨i + 1, by omega, by go_num, (below_drewN hB nq).setCell (Nat.le_refl _) _, HP.out⟩, by simp [intOf]; omega⟩
      · have hall : (perL l).take i = perL l := by rw [List.take_of_length_le (by have := HF.out.len; omega)]
        have hk2 := HK.out
        rw [hall] at hk2
        have HBLK := hid hk2
        have H3 := hid (HB2.out.trans (hB.mono HB2.out.size))
        have HC3 := hid (fun (wr2 : World) (hb : Below wr.heap.size wr wr2) i (hi : i < NL) => (hb.cell (p := ⟨g, o + i, none⟩) (Nat.lt_of_lt_of_le hg hB.size)).trans (HCB.out wr hB i hi))
        have hbl := HBLK.out.lt
        have HCX := hid (fun (wr2 : World) (hb : Below wr.heap.size wr wr2) j (hj : j < n + 1) => (hb.cell (p := ⟨w2.heap.size, j, none⟩) hbl).trans (HBLK.out.rowBt j hj))
        obtain ⟨w3, hw3⟩ : ∃ w3, w3 = wr := ⟨_, rfl⟩
        rw [← hw3] at HBLK H3 HC3 HCX ⊢
        clear hall hk2 HK hbl hw3 hB
        go_wp2_with fail
        go_loopw [8] (fun v wr2 => ∃ i : Nat, i ≤ NL ∧ v = .int .i64 i ∧ Below w3.heap.size w3 wr2) (fun v _ => NL - (intOf v).toNat)
        case atStart => exact ⟨0, by omega, rfl, Below.refl _ _⟩
        case round =>
          obtain ⟨i, hi, rfl, hB⟩ := hrel
          by_cases hlt : i < NL
          · have q1 := HC3.out _ hB i hlt
            have hPx := HF.out.per i hlt
            have hlast : ∀ j, j < i → A j < A i ∧ IsP l l.length (A j) := fun j hj => ⟨HF.out.lt j i hj hlt, HF.out.per j (by omega)⟩
            obtain ⟨x, hx⟩ : ∃ x, x = A i := ⟨_, rfl⟩
            rw [← hx] at q1 hPx hlast
            rw [← HN.out] at hPx hlast
            have x1 := hPx.1
            have x2 := hPx.2.1
            have HPX := hid hPx
            have HLA := hid hlast
            have HX := hid hx
            have hw2 : wrap64 (2 * (x : Int)) = ((2 * x : Nat) : Int) := by rw [IntWalk.wrap64_in _ (by omega)]; omega
            clear hPx hlast hx
            go_wp2_with fail
            go_loopw [9] (fun v wr3 => ∃ k : Nat, k ≤ n + x ∧ v = .int .i64 k ∧ Below w3.heap.size w3 wr3 ∧ Hid (∃ m, 1 ≤ m ∧ k = m * x)) (fun v _ => n + x + 1 - (intOf v).toNat)
            case atStart => exact ⟨2 * x, by omega, by go_num, hB, 2, by omega, rfl⟩
            case round =>
              obtain ⟨k, hk, rfl, hB3, HM⟩ := hrel
              by_cases hkn : k ≤ n
              · have q2 := HC3.out _ hB3 i hlt
                rw [← HX.out] at q2
                have q3 := HCX.out _ hB3 k (by omega)
                rw [show isB (perL l) k = true by
                  obtain ⟨m, hm, rfl⟩ := HM.out
                  exact HF.out.mem _ (by rw [← HN.out]; exact isP_mul HPX.out m hm hkn)] at q3
                have HM2 := hid (show ∃ m, 1 ≤ m ∧ k + x = m * x by
                  obtain ⟨m, hm, rfl⟩ := HM.out
                  exact ⟨m + 1, by omega, by rw [Nat.add_mul, Nat.one_mul]⟩)
                clear HM
                go_wp2_with fail
                exact ⟨⟨k + x, by omega, by go_num, hB3, HM2⟩, by simp [intOf]; omega⟩
              · clear HM
                go_wp2_with fail
                go_loopw [10] (fun v wr4 => ∃ j : Nat, j ≤ i ∧ v = .int .i64 j ∧ Below w3.heap.size w3 wr4) (fun v _ => i - (intOf v).toNat)
                case atStart => exact ⟨0, by omega, rfl, hB3⟩
                case round =>
                  obtain ⟨j, hj, rfl, hB4⟩ := hrel
                  have q2 := HC3.out _ hB4 i hlt
                  rw [← HX.out] at q2
                  by_cases hji : j < i
                  · have q3 := HC3.out _ hB4 j (by omega)
                    obtain ⟨hyx, hPy⟩ := HLA.out j hji
                    obtain ⟨y, hy⟩ : ∃ y, y = A j := ⟨_, rfl⟩
                    rw [← hy] at q3 hyx hPy
                    have y1 := hPy.1
                    have HPY := hid hPy
                    have HY := hid hy
                    clear hPy hy
                    by_cases hsum : y + x ≤ n
                    · have e1 : decide ((y : Int) + (x : Int) ≤ (n : Int)) = true := decide_eq_true (by omega)
                      have e1' : decide (y + x ≤ n) = true := decide_eq_true hsum
                      have hgp := isP_gcd (x + y) x y (Nat.le_refl _) HPX.out HPY.out (by omega)
                      have hgN : 0 < x / Nat.gcd x y := Nat.div_pos (Nat.gcd_le_left _ (by omega)) (Nat.gcd_pos_of_pos_left _ (by omega))
                      have hgq : x / (x / Nat.gcd x y) = Nat.gcd x y := Nat.div_div_self (Nat.gcd_dvd_left x y) (by omega)
                      have hNx := Nat.div_le_self x (Nat.gcd x y)
                      have RD := fun W => hid (Reduced_any x y W (by omega) (by omega) (by omega))
                      simp only [fracV] at RD
                      obtain ⟨G, hG⟩ : ∃ G, G = Nat.gcd x y := ⟨_, rfl⟩
                      rw [← hG] at hgp hgN hgq hNx RD
                      generalize ((y / G : Nat) : Int) = D at RD
                      obtain ⟨N, hN⟩ : ∃ N, N = x / G := ⟨_, rfl⟩
                      rw [← hN] at hgN hgq hNx RD
                      have g1 := hgp.2.1
                      have HG := hid (HF.out.mem G (by rw [← HN.out]; exact hgp))
                      have hquo : Int.tdiv (x : Int) (N : Int) = (G : Int) := by rw [tdiv_nat, hgq]
                      have hquo2 : (x : Int) / (N : Int) = (G : Int) := by rw [← hgq]; simp
                      have hz1 : ¬ (N : Int) = 0 := by omega
                      have hz2 : ((N : Int) == 0) = false := beq_eq_false_iff_ne.2 hz1
                      have hz3 : N ≠ 0 := by omega
                      have hG0 : x / N = G := hgq
                      have HQ := hid (And.intro hquo (And.intro hquo2 (And.intro hz1 (And.intro hz2 (And.intro hz3 hG0)))))
                      have RDH := hid RD
                      clear hgp hgN hgq hNx RD hG hN hquo hquo2 hz1 hz2 hz3 hG0
                      go_wp2_with fail
                      go_quiet (fail)
                      go_wp2_with fail
                      have hB5 := below_drewN hB4 nq
                      have p2 := HC3.out _ hB5 i hlt
                      have p3 := HC3.out _ hB5 j (by omega)
                      rw [← HX.out] at p2
                      rw [← HY.out] at p3
                      obtain ⟨w5, hw5⟩ : ∃ w5, w5 = wr.drewN nq := ⟨_, rfl⟩
                      rw [← hw5] at hB5 p2 p3 ⊢
                      have HB5 := hid hB5
                      have RD2 := hid (fun (W : World) (h0 : W.cell? ⟨g, o + i, none⟩ = some (.int .i64 (x : Int))) (h1 : W.cell? ⟨g, o + j, none⟩ = some (.int .i64 (y : Int))) => hid (((RDH.out W).out).mono (R' := fun e w' => e = .returned (.agg #[.int .i64 (N : Int), .int .i64 D]) ∧ Below W.heap.size W w' ∧ w'.cell? ⟨g, o + i, none⟩ = some (.int .i64 (x : Int)) ∧ w'.cell? ⟨g, o + j, none⟩ = some (.int .i64 (y : Int))) fun e w' ⟨a1, a4⟩ => ⟨a1, a4, (a4.cell (cellLt h0)).trans h0, (a4.cell (cellLt h1)).trans h1⟩))
                      clear hw5 hB5 q1 q2 q3 hB hB3 hB4 e1 e1' RDH
                      have b1 : (j : Int) < (NL : Int) := by omega
                      have b2 : (i : Int) < (NL : Int) := by omega
                      have b3 : j < NL := by omega
                      have n1 := World.new_ne w5 _ p2
                      have n2 := World.new_ne w5 _ p3
                      go_region_held3 (fun W' => W'.cell? ⟨g, o + i, none⟩ = some (.int .i64 (x : Int)) ∧ W'.cell? ⟨g, o + j, none⟩ = some (.int .i64 (y : Int))) (go_keep)
                        (first | (go_at_call 24; refine ((RD2.out _ ?_ ?_).out).mono ?_; (first | assumption | simp [*]); (first | assumption | simp [*]); rintro e w6 ⟨rfl, hb6, k0, k1⟩; (first | (have hz := after_alloc hb6; obtain ⟨z0, z1, z2, z3⟩ := hz) | skip)))
                      all_goals
                        first | (have hz := in_alloc (N : Int) D hb6) | (have hz := out_alloc (N : Int) D hb6)
                        obtain ⟨r0, -, -, -⟩ := hz.1.pair
                        have h7 := HB5.out.trans (hz.2.mono HB5.out.size)
                        have HB7 := hid h7
                        have p4 := HC3.out _ h7 i hlt
                        rw [← HX.out] at p4
                        have p5 := HCX.out _ h7 G (by omega)
                        rw [HG.out] at p5
                        obtain ⟨hquo, hquo2, hz1, hz2, hz3, hG0⟩ := HQ.out
                        clear hz h7 hb6 k0 k1 p2 p3 n1 n2
                        (try clear z0 z1 z2 z3)
                        go_wp2_with fail
                        go_quiet (fail)
                        go_wp2_with fail
                        exact ⟨⟨j + 1, by omega, by go_num, below_drewN HB7.out nq⟩, by simp [intOf]; omega⟩
                    · have e1 : decide ((y : Int) + (x : Int) ≤ (n : Int)) = false := decide_eq_false (by omega)
                      have e1' : decide (y + x ≤ n) = false := decide_eq_false hsum
                      go_wp2_with fail
                      go_quiet (fail)
                      go_wp2_with fail
                      exact ⟨⟨i + 1, by omega, by go_num, below_drewN hB4 nq⟩, by simp [intOf]; omega⟩
                  · have e0 : decide ((j : Int) < (i : Int)) = false := decide_eq_false (by omega)
                    have e0' : decide (j < i) = false := decide_eq_false hji
                    go_wp2_with fail
                    go_quiet (fail)
                    go_wp2_with fail
                    exact ⟨⟨i + 1, by omega, by go_num, below_drewN hB4 nq⟩, by simp [intOf]; omega⟩
          · clear HC3 HCX
            go_wp2_with fail
            refine (awake_any _).mono ?_
            rintro e w9 ⟨rfl, hb9⟩
            have H4 := H3.out.trans (hB.mono H3.out.size)
            go_wp2_with fail
            go_ret
            exact ⟨rfl, H4.trans (hb9.mono H4.size)⟩
end Go.Proofs.Ytancficmkkdnfaa
