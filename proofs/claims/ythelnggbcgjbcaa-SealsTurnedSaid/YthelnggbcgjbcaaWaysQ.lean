/-
  Walks: the program's Ways, its rounds.
-/
import Derived.Test.YthelnggbcgjbcaaWaysP
import Derived.Test.YthelnggbcgjbcaaFacts
namespace Go.Proofs.Ythelnggbcgjbcaa
open Go.RowKit Go.ChangeMaps

/-- A state that the program meets in a chain of n seals. -/
def okST (n : Nat) (x : ST) : Prop := 0 ≤ x.1 ∧ x.1 ≤ n ∧ (-x.1 ≤ x.2.1 ∧ x.2.1 ≤ x.1) ∧ (-x.1 ≤ x.2.2.1 ∧ x.2.2.1 ≤ x.1) ∧ (-x.1 ≤ x.2.2.2.1 ∧ x.2.2.2.1 ≤ x.1) ∧ (-x.1 ≤ x.2.2.2.2 ∧ x.2.2.2.2 ≤ x.1)
def okM (n : Nat) (M : List (ST × Nat)) : Prop := ∀ p ∈ M, okST n p.1
theorem okST_tr {n : Nat} {l : List UInt8} {x : ST} {sg : Int} {k : Nat} (h : okST n x) (hs : sg = 1 ∨ sg = -1) (h1 : x.1 < k) (h2 : k ≤ n) : okST n (tr l sg x k) := by
  obtain ⟨a, b, c0, c1, c2, c3⟩ := h
  have hp : ∀ j, (cn (piece l x k) j : Int) ≤ k - x.1 := by
    intro j
    have := cn_le (piece l x k) j
    have h3 : (piece l x k).length ≤ k - x.1.toNat := by unfold piece; rw [List.length_take]; omega
    omega
  have p0 := hp 0
  have p1 := hp 1
  have p2 := hp 2
  have p3 := hp 3
  unfold okST tr
  dsimp only
  rcases hs with rfl | rfl <;> refine ⟨by omega, by omega, ?_, ?_, ?_, ?_⟩ <;> constructor <;> omega
theorem okM_add {n : Nat} {M : List (ST × Nat)} {y : ST} {c : Nat} (h : okM n M) (hy : okST n y) : okM n (addM y c M) := by
  induction M with
  | nil => intro p hp; simp [addM] at hp; subst hp; exact hy
  | cons q r ih =>
    obtain ⟨x, d⟩ := q
    intro p hp
    simp only [addM] at hp
    by_cases e : y = x
    · rw [if_pos e] at hp
      rcases List.mem_cons.1 hp with rfl | hp
      · exact h (x, d) (by simp)
      · exact h p (by simp [hp])
    · rw [if_neg e] at hp
      rcases List.mem_cons.1 hp with rfl | hp
      · exact h _ (by simp)
      · exact ih (fun q hq => h q (by simp [hq])) p hp
/-- How many steps an iterator has made. -/
def seenN (w : World) (r : Nat) : Nat := match w.heap[r]? with | some (.mapIter _ _ seen _) => seen.size | _ => 0
theorem IterAt.seenN {w : World} {r b n : Nat} {seen : Array Nat} (h : IterAt w r b n seen) : seenN w r = seen.size := by
  unfold Ythelnggbcgjbcaa.seenN IterAt at *
  rw [h]
theorem zero3 (w : World) : (zeroValue 3).run Try.prog w = .ok (.int .i64 0) w := by kernel_rfl
theorem pow24 (r : Nat) (h : r ≤ 4) : 24 ^ r ≤ 331776 := by
  have := Nat.pow_le_pow_right (show 0 < 24 by omega) h
  omega

theorem ways1_four (d0 d1 d2 d3 : Int) (p : ByteArray) (sg : Int) (w : World) (hp : p.size ≤ 100) (hok : p.data.toList.all okb = true) (hs : sg = 1 ∨ sg = -1) (h0 : -1000 ≤ d0 ∧ d0 ≤ 1000) (h1 : -1000 ≤ d1 ∧ d1 ≤ 1000) (h2 : -1000 ≤ d2 ∧ d2 ≤ 1000) (h3 : -1000 ≤ d3 ∧ d3 ≤ 1000) :
    Calls Try.prog 53 #[.agg #[.int .i64 d0, .int .i64 d1, .int .i64 d2, .int .i64 d3], .string p, .int .i64 sg] w fun e w' =>
      e = .returned (.agg #[.int .i64 (d0 + sg * cn p.data.toList 0), .int .i64 (d1 + sg * cn p.data.toList 1), .int .i64 (d2 + sg * cn p.data.toList 2), .int .i64 (d3 + sg * cn p.data.toList 3)]) ∧ Below w.heap.size w w' :=
  ways1_any (fun j => match j with | 0 => d0 | 1 => d1 | 2 => d2 | _ => d3) p sg w hp hok hs (fun j hj => by
    match j, hj with
    | 0, _ => exact h0
    | 1, _ => exact h1
    | 2, _ => exact h2
    | 3, _ => exact h3)
theorem nodup_len (n : Nat) (S : List Nat) (h1 : S.Nodup) (h2 : ∀ i ∈ S, i < n) : S.length ≤ n := by
  have hp : (S ++ (List.range n).filter fun i => !S.contains i).Perm (List.range n) := by
    refine (List.perm_ext_iff_of_nodup ?_ List.nodup_range).2 fun i => ?_
    · refine List.nodup_append.2 ⟨h1, List.nodup_range.filter _, ?_⟩
      intro a ha b hb e
      subst e
      simp at hb
      exact hb.2 ha
    · simp only [List.mem_append, List.mem_filter, List.mem_range]
      constructor
      · rintro (h | h)
        · exact h2 i h
        · exact h.1
      · intro h
        by_cases hi : i ∈ S
        · exact .inl hi
        · exact .inr ⟨h, by simpa using hi⟩
  have := hp.length_eq
  rw [List.length_append, List.length_range] at this
  omega
theorem Blk.turned {w : World} {b k : Nat} {cs : Array Value} {t : TypeId} (h : Blk w b cs t) (hk : b ≠ k) (o : Obj) : Blk (setBlock w k o) b cs t := (setBlock_other b hk o).trans h
theorem ret_ii {a b c : Int} (h : a = b) : Ending.returned (.tuple #[.int .i64 a, .int .i64 c]) = .returned (.tuple #[.int .i64 b, .int .i64 c]) := by rw [h]
/-- 'next[y] += c'. -/
theorem bump_facts {w7 : World} {bn : Nat} {M3 : List (ST × Nat)} (y0 y1 y2 y3 y4 : Int) (c : Nat) (h : MapIs enc5 w7 bn (vl M3)) :
    ∃ w8 w9 stamp, (Instr.lookup 67 (.map (some bn)) (.agg #[.int .i64 y0, .int .i64 y1, .int .i64 y2, .int .i64 y3, .int .i64 y4]) false).run Try.prog w7 = .ok (.int .i64 (cntM (y0, y1, y2, y3, y4) M3)) w7 ∧
      (Instr.mapEntry 67 (.map (some bn)) (.agg #[.int .i64 y0, .int .i64 y1, .int .i64 y2, .int .i64 y3, .int .i64 y4])).run Try.prog w7 = .ok (.tuple #[.int .i64 (cntM (y0, y1, y2, y3, y4) M3), .int .i64 stamp]) w8 ∧
      (Instr.lookup 67 (.map (some bn)) (.agg #[.int .i64 y0, .int .i64 y1, .int .i64 y2, .int .i64 y3, .int .i64 y4]) false).run Try.prog w8 = .ok (.int .i64 (cntM (y0, y1, y2, y3, y4) M3)) w8 ∧
      (Instr.entryStore 67 (.map (some bn)) (.int .i64 stamp) (.int .i64 ((cntM (y0, y1, y2, y3, y4) M3 : Int) + (c : Int)))).run Try.prog w8 = .ok () w9 ∧
      MapIs enc5 w9 bn (vl (addM (y0, y1, y2, y3, y4) c M3)) ∧ (∃ o o', w9 = setBlock (setBlock w7 bn o) bn o') := by
  have h1 := h.look kt5 Try.underlying67 (zero3 w7) (y0, y1, y2, y3, y4) false
  obtain ⟨w8, stamp, l1, g1, ⟨o, ho⟩, g2, g3, g4⟩ := h.bump kt5 Try.underlying67 zero3 (y0, y1, y2, y3, y4)
  have h2 := g2.look kt5 Try.underlying67 (zero3 w8) (y0, y1, y2, y3, y4) false
  obtain ⟨w9, g5, g6, ⟨o', ho'⟩⟩ := g4 (.int .i64 ((cntM (y0, y1, y2, y3, y4) M3 + c : Nat) : Int))
  rw [get_vl] at h1 g1 g3
  rw [g3] at h2
  rw [put_vl] at g6
  refine ⟨w8, w9, stamp, h1, g1, h2, ?_, g6, ⟨o, o', by rw [ho', ho]⟩⟩
  rw [← Int.natCast_add]; exact g5

/-- What Ways returns. -/
def waysE (l : List UInt8) (many : Int) : Value := if evenChainB l && decide (0 ≤ many) && decide (many ≤ 4) then .tuple #[.int .i64 (waysN l [] many.toNat 1), .int .i64 0] else .tuple #[.int .i64 0, .int .i64 2]

set_option maxRecDepth 100000 in
set_option maxHeartbeats 8000000 in
theorem ways_ok (s : ByteArray) (m : Nat) (w : World) (h : evenChainB s.data.toList = true) (hm : m ≤ 4) :
    Calls Try.prog 39 #[.string s, .int .i64 m] w fun e w' => e = .returned (.tuple #[.int .i64 (waysN s.data.toList [] m 1), .int .i64 0]) ∧ Below w.heap.size w w' := by
  have H := hid h
  have HOK := hid (even_facts h).1
  have hs : s.size ≤ 24 := by rw [← bytes_len]; exact (even_facts h).2.2
  have hbl := bytes_len s
  have HBL := hid hbl
  have hm0 : (0 : Int) ≤ m := by omega
  clear h hbl
  obtain ⟨T, hT⟩ : ∃ T, T = waysN s.data.toList [] m 1 := ⟨_, rfl⟩
  rw [← hT]
  have hT2 : T = Wf s.data.toList m 1 (0, 0, 0, 0, 0) := by rw [hT, ways_Wf]
  have HT := hid hT2
  clear hT hT2
  have hmm := @run_makeMap Try.prog
  go_enter Try.func39, Try.ntmps39
  go_wp2_with fail
  refine (isEven_any s _ (by omega)).mono ?_
  rintro e w1 ⟨rfl, hb⟩
  rw [H.out]
  go_wp2_with fail
  refine (within_any _ _ _ _).mono ?_
  rintro e w2 ⟨rfl, rfl⟩
  rw [show (decide ((0 : Int) ≤ (m : Int)) && decide ((m : Int) ≤ 4)) = true by simp; omega]
  obtain ⟨w4, hst, hM, o, ho⟩ := (MapIs.made (enc := enc5) w1).store kt5 Try.underlying67 (0, 0, 0, 0, 0) (.int .i64 1)
  simp only [enc5] at hst
  have hb4 : Below w.heap.size w w4 := by rw [ho]; exact setBlock_below (hb.alloc hb.size _) hb.size _
  have HM := hid hM
  have hsz4 : w1.heap.size < w4.heap.size := hM.lt
  have hge := hb.size
  clear ho hM
  go_wp2_with fail
  have hput : put ((0, 0, 0, 0, 0) : ST) (.int .i64 1) [] = vl [((0, 0, 0, 0, 0), 1)] := rfl
  rw [hput] at HM
  clear hput hst hm0 hmm
  have hmm := @run_makeMap Try.prog
  go_loopw [6, 8, 28] (fun mv sv iv wr => ∃ (r bm : Nat) (sg : Int) (M : List (ST × Nat)), r ≤ m ∧ iv = .int .i64 r ∧ mv = .map (some bm) ∧ sv = .int .i64 sg ∧ (sg = 1 ∨ sg = -1) ∧ Below w.heap.size w wr ∧ w.heap.size ≤ bm ∧ Hid (MapIs enc5 wr bm (vl M)) ∧ Hid (wsum (Wf s.data.toList (m - r) sg) M = T ∧ wsum (fun _ => 1) M ≤ 24 ^ r ∧ okM s.size M)) (fun _ _ i _ => m - (intOf i).toNat)
  case atStart =>
    refine ⟨0, w1.heap.size, 1, [((0, 0, 0, 0, 0), 1)], by omega, rfl, rfl, rfl, .inl rfl, hb4, hge, HM, ?_, ?_, ?_⟩
    · rw [HT.out]; simp [wsum]
    · simp [wsum]
    · intro p hp; simp at hp; subst hp; unfold okST; dsimp only; omega
  case round =>
    obtain ⟨r, bm, sg, M, hr, rfl, rfl, rfl, hsg, hB, hgb, HM, HI⟩ := hrel
    have HSG := hid hsg
    have hsb : -1 ≤ sg ∧ sg ≤ 1 := by omega
    clear hsg
    by_cases hlt : r < m
    · have hbm : bm < wr.heap.size := HM.out.lt
      have hp24 := pow24 (r + 1) (by omega)
      have hrg := (MapIs.alloc HM.out (.map #[] 0)).range Try.underlying67
      rw [vl_len] at hrg
      have hdr : decide ((r : Int) < (m : Int)) = true := by simp; omega
      have HMN := hid (MapIs.made (enc := enc5) wr)
      go_wp2_with fail
      obtain ⟨bn, hbn⟩ : ∃ bn, bn = wr.heap.size := ⟨_, rfl⟩
      have hri : (wr.alloc (.map #[] 0)).heap.size = bn + 1 := by rw [hbn]; simp
      have hIt0 := IterAt.made (wr.alloc (.map #[] 0)) bm M.length
      rw [hri] at hIt0
      have hMm0 := MapIs.alloc (MapIs.alloc HM.out (.map #[] 0)) (.mapIter (some bm) M.length #[] M.length)
      have hMn0 := MapIs.alloc HMN.out (.mapIter (some bm) M.length #[] M.length)
      have hB0 : Below w.heap.size w ((wr.alloc (.map #[] 0)).alloc (.mapIter (some bm) M.length #[] M.length)) := (hB.alloc hB.size _).alloc (by have := hB.size; simp; omega) _
      have hgn : w.heap.size ≤ bn := by rw [hbn]; exact hB.size
      rw [← hbn] at hMn0 hbm ⊢
      have HIt0 := hid hIt0
      have HMm0 := hid hMm0
      have HMn0 := hid hMn0
      clear hIt0 hMm0 hMn0 hrg HMN hri hmm hbn
      go_loopw [12] (fun _ wx => ∃ (seen : Array Nat) (M2 : List (ST × Nat)), Below w.heap.size w wx ∧ Hid (MapIs enc5 wx bm (vl M)) ∧ Hid (IterAt wx (bn + 1) bm M.length seen) ∧ Hid (MapIs enc5 wx bn (vl M2)) ∧ Hid (seen.toList.Nodup ∧ ∀ i ∈ seen.toList, i < M.length) ∧
        Hid (wsum (Wf s.data.toList (m - (r + 1)) (-sg)) M2 = isum (Wf s.data.toList (m - r) sg) M seen.toList ∧ wsum (fun _ => 1) M2 ≤ 24 * isum (fun _ => 1) M seen.toList ∧ okM s.size M2)) (fun _ wx => M.length - seenN wx (bn + 1))
      case atStart => exact ⟨#[], [], hB0, HMm0, HIt0, HMn0, ⟨by simp, by simp⟩, ⟨rfl, by simp [wsum], by intro p hp; simp at hp⟩⟩
      case round =>
        obtain ⟨seen, M2, hB3, HMi, HIt, HMn, HSn, HI2⟩ := hrel
        have hnxt := MapIs.next (P := Try.prog) HMi.out (by rw [vl_len]; exact HIt.out) 0
        rw [vl_len] at hnxt
        rcases hnxt with ⟨hall, hnx⟩ | ⟨i, x, v, w6, hi, hni, hget, hw6, hnx, hIt6, hMi6, hent⟩
        · have hI3 : wsum (Wf s.data.toList (m - (r + 1)) (-sg)) M2 = T ∧ wsum (fun _ => 1) M2 ≤ 24 ^ (r + 1) ∧ okM s.size M2 := by
            obtain ⟨i1, i2, i3⟩ := HI2.out
            obtain ⟨t1, t2, t3⟩ := HI.out
            rw [isum_seen _ _ _ HSn.out.1 HSn.out.2 hall] at i1 i2
            refine ⟨by rw [i1, t1], ?_, i3⟩
            rw [Nat.pow_succ]; omega
          have HI3 := hid hI3
          clear hI3 hall
          have hsg2 : -sg = 1 ∨ -sg = -1 := by have := HSG.out; omega
          have HSG2 := hid hsg2
          clear hsg2
          go_wp2_with fail
          go_roundw
          case rel => exact ⟨r + 1, bn, -sg, M2, by omega, by go_num, rfl, rfl, HSG2.out, hB3, hgn, HMn, HI3⟩
          case measure => simp [intOf]; omega
        · obtain ⟨c, rfl, hMi⟩ : ∃ c : Nat, v = .int .i64 (c : Int) ∧ M[i]? = some (x, c) := by
            simp only [vl, List.getElem?_map] at hget
            cases hm : M[i]? with
            | none => rw [hm] at hget; cases hget
            | some q => rw [hm] at hget; simp at hget; exact ⟨q.2, hget.2.symm, by rw [← hget.1]⟩
          have hok := HI.out.2.2 (x, c) (List.mem_of_getElem? hMi)
          obtain ⟨x1, d0, d1, d2, d3⟩ := x
          obtain ⟨k1, k2, k3, k4, k5, k6⟩ := hok
          dsimp only at k1 k2 k3 k4 k5 k6
          obtain ⟨e, rfl⟩ := Int.eq_ofNat_of_zero_le k1
          have HMi := hid hMi
          simp only [enc5] at hnx hent
          have hB6 : Below w.heap.size w w6 := by
            obtain ⟨w0, h0, rfl⟩ := hw6
            refine setBlock_below ?_ (by omega) _
            rcases h0 with rfl | rfl
            · exact hB3
            · exact hB3.drew
          have hMn6 : MapIs enc5 w6 bn (vl M2) := by
            obtain ⟨w0, h0, rfl⟩ := hw6
            refine MapIs.other ?_ (by omega) _
            rcases h0 with rfl | rfl
            · exact HMn.out
            · exact HMn.out
          have hn6 : bn < w6.heap.size := hMn6.lt
          have hn6' : bn + 1 < w6.heap.size := hIt6.lt
          have HIt6 := hid hIt6
          have HMi6 := hid hMi6
          have HMn6 := hid hMn6
          clear hMi hget hw6 hIt6 hMi6 hMn6 k1
          have hBx : Blk (w6.alloc (.cells #[.int .i64 (e : Int), .int .i64 d0, .int .i64 d1, .int .i64 d2, .int .i64 d3] 66)) w6.heap.size #[.int .i64 (e : Int), .int .i64 d0, .int .i64 d1, .int .i64 d2, .int .i64 d3] 66 := Blk.new _ _ _
          have c0 := hBx.cell 0
          have HBx := hid hBx
          clear hBx
          simp only [List.getElem?_toArray, List.getElem?_cons_zero] at c0
          have hec := cntM_le ((e : Int), d0, d1, d2, d3) M
          have hcle : c ≤ 331776 := by
            have h1 := isum_le M [i] (by simp) (by simpa using hi)
            simp [isum, HMi.out] at h1
            have h2 := HI.out.2.1
            have h3 := pow24 r (by omega)
            omega
          clear hec
          have hse : e ≤ s.size := by omega
          have h0B := hB6.alloc hB6.size (.cells #[.int .i64 (e : Int), .int .i64 d0, .int .i64 d1, .int .i64 d2, .int .i64 d3] 66)
          have hMi0 := hid (MapIs.alloc HMi6.out (.cells #[.int .i64 (e : Int), .int .i64 d0, .int .i64 d1, .int .i64 d2, .int .i64 d3] 66))
          have hMn0 := hid (MapIs.alloc HMn6.out (.cells #[.int .i64 (e : Int), .int .i64 d0, .int .i64 d1, .int .i64 d2, .int .i64 d3] 66))
          have hIt0 := hid (IterAt.alloc HIt6.out (.cells #[.int .i64 (e : Int), .int .i64 d0, .int .i64 d1, .int .i64 d2, .int .i64 d3] 66))
          have hseenB := isum_le M seen.toList HSn.out.1 HSn.out.2
          have htot : 24 * isum (fun _ => 1) M seen.toList ≤ 7962624 := by
            have h2 := HI.out.2.1
            have h3 := pow24 r (by omega)
            omega
          clear hseenB
          go_wp2_with fail
          go_loopw [12] (fun iv wx => ∃ (k : Nat) (M3 : List (ST × Nat)), e + 1 ≤ k ∧ (k ≤ s.size ∨ k = e + 1) ∧ iv = .int .i64 k ∧ Below w.heap.size w wx ∧ Hid (MapIs enc5 wx bm (vl M)) ∧ Hid (IterAt wx (bn + 1) bm M.length (seen.push i)) ∧ Hid (MapIs enc5 wx bn (vl M3)) ∧ Hid (Blk wx w6.heap.size #[.int .i64 (e : Int), .int .i64 d0, .int .i64 d1, .int .i64 d2, .int .i64 d3] 66) ∧
            Hid (wsum (Wf s.data.toList (m - (r + 1)) (-sg)) M3 = isum (Wf s.data.toList (m - r) sg) M seen.toList + c * sumTo (fun k => Wf s.data.toList (m - (r + 1)) (-sg) (tr s.data.toList sg ((e : Int), d0, d1, d2, d3) k)) (e + 1) (k - (e + 1)) ∧ wsum (fun _ => 1) M3 ≤ 24 * isum (fun _ => 1) M seen.toList + c * (k - (e + 1)) ∧ okM s.size M3)) (fun iv _ => s.size + 1 - (intOf iv).toNat)
          case atStart =>
            refine ⟨e + 1, M2, Nat.le_refl _, .inr rfl, by go_num, h0B, hMi0, hIt0, hMn0, HBx, ?_, ?_, HI2.out.2.2⟩
            · rw [Nat.sub_self, sumTo, Nat.mul_zero, Nat.add_zero]; exact HI2.out.1
            · rw [Nat.sub_self, Nat.mul_zero, Nat.add_zero]; exact HI2.out.2.1
          case round =>
            obtain ⟨k, M3, hk1, hk2, rfl, hB7, HMi7, HIt7, HMn7, HBx7, HI7⟩ := hrel
            have hb10 : w6.heap.size < wr.heap.size := HBx7.out.lt
            by_cases hks : k < s.size
            · have hcells := HBx7.out
              have q0 := hcells.cell 0
              have q1 := hcells.cell 1
              have q2 := hcells.cell 2
              have q3 := hcells.cell 3
              have q4 := hcells.cell 4
              simp only [List.getElem?_toArray, List.getElem?_cons_zero, List.getElem?_cons_succ] at q0 q1 q2 q3 q4
              obtain ⟨p, hp⟩ : ∃ p, p = s.extract e k := ⟨_, rfl⟩
              have hps : p.size ≤ 100 := by rw [hp]; simp; omega
              have hpo : p.data.toList.all okb = true := by rw [hp]; exact extract_ok s e k HOK.out
              have hpd : p.data.toList = piece s.data.toList ((e : Int), d0, d1, d2, d3) k := by rw [hp, data_extract]; rfl
              have HP := hid hp
              have HPO := hid hpo
              have HPD := hid hpd
              have hM3 : wsum (fun _ => 1) M3 ≤ 16000000 := by
                have h1 := HI7.out.2.1
                have h2 : c * (k - (e + 1)) ≤ 331776 * 24 := Nat.mul_le_mul hcle (by omega)
                omega
              have hcl := fun y => cntM_le y M3
              have HCL := hid hcl
              clear hcells hp hpo hpd hcl
              have i1 : (0 : Int) ≤ (e : Int) := by omega
              have i2 : (e : Int) ≤ (k : Int) := by omega
              have i3 : (k : Int) ≤ (s.size : Int) := by omega
              have i4 : e ≤ k := by omega
              have i5 : k ≤ s.size := by omega
              go_wp2_with fail
              go_region_with (go_at_call 53; rw [← HP.out]; refine (ways1_four d0 d1 d2 d3 p sg _ hps HPO.out HSG.out (by omega) (by omega) (by omega) (by omega)).mono ?_; rintro e7 w7 ⟨rfl, hb7⟩; obtain ⟨w8, w9, st, g1, g2, g3, g4, g5, g6⟩ := bump_facts (k : Int) (d0 + sg * cn p.data.toList 0) (d1 + sg * cn p.data.toList 1) (d2 + sg * cn p.data.toList 2) (d3 + sg * cn p.data.toList 3) c (MapIs.below HMn7.out.drew hb7 (by exact HMn7.out.lt)); have g7 : IntKind.i64.wrap ((cntM ((k : Int), d0 + sg * cn p.data.toList 0, d1 + sg * cn p.data.toList 1, d2 + sg * cn p.data.toList 2, d3 + sg * cn p.data.toList 3) M3 : Int) + (c : Int)) = (cntM ((k : Int), d0 + sg * cn p.data.toList 0, d1 + sg * cn p.data.toList 1, d2 + sg * cn p.data.toList 2, d3 + sg * cn p.data.toList 3) M3 : Int) + (c : Int) := IntWalk.i64_in _ (by have := HCL.out ((k : Int), d0 + sg * cn p.data.toList 0, d1 + sg * cn p.data.toList 1, d2 + sg * cn p.data.toList 2, d3 + sg * cn p.data.toList 3); omega))
              all_goals
                have hy : ((k : Int), d0 + sg * (cn p.data.toList 0 : Int), d1 + sg * (cn p.data.toList 1 : Int), d2 + sg * (cn p.data.toList 2 : Int), d3 + sg * (cn p.data.toList 3 : Int)) = tr s.data.toList sg ((e : Int), d0, d1, d2, d3) k := by rw [HPD.out]; rfl
                rw [hy] at g5
                obtain ⟨o8, o9, hw9⟩ := g6
                have hb7' : Below wr.heap.size wr w7 := (Below.refl _ wr).drew.trans hb7
                have hB9 : Below w.heap.size w w9 := by rw [hw9]; exact setBlock_below (setBlock_below (hB7.trans (hb7'.mono hB7.size)) hgn _) hgn _
                have hM9 : MapIs enc5 w9 bm (vl M) := by rw [hw9]; exact ((HMi7.out.below hb7' HMi7.out.lt).other (by omega) _).other (by omega) _
                have hI9 : IterAt w9 (bn + 1) bm M.length (seen.push i) := by rw [hw9]; exact ((HIt7.out.below hb7' HIt7.out.lt).other (by omega) _).other (by omega) _
                have hX9 : Blk w9 w6.heap.size #[.int .i64 (e : Int), .int .i64 d0, .int .i64 d1, .int .i64 d2, .int .i64 d3] 66 := by rw [hw9]; exact ((HBx7.out.below hb7' HBx7.out.lt).turned (by omega) _).turned (by omega) _
                have hsub : k + 1 - (e + 1) = k - (e + 1) + 1 := by omega
                have hinv : wsum (Wf s.data.toList (m - (r + 1)) (-sg)) (addM (tr s.data.toList sg ((e : Int), d0, d1, d2, d3) k) c M3) = isum (Wf s.data.toList (m - r) sg) M seen.toList + c * sumTo (fun k => Wf s.data.toList (m - (r + 1)) (-sg) (tr s.data.toList sg ((e : Int), d0, d1, d2, d3) k)) (e + 1) (k + 1 - (e + 1)) ∧ wsum (fun _ => 1) (addM (tr s.data.toList sg ((e : Int), d0, d1, d2, d3) k) c M3) ≤ 24 * isum (fun _ => 1) M seen.toList + c * (k + 1 - (e + 1)) ∧ okM s.size (addM (tr s.data.toList sg ((e : Int), d0, d1, d2, d3) k) c M3) := by
                  obtain ⟨j1, j2, j3⟩ := HI7.out
                  refine ⟨?_, ?_, okM_add j3 (okST_tr ⟨i1, k2, k3, k4, k5, k6⟩ HSG.out (by omega) (by omega))⟩
                  · rw [wsum_add, j1, hsub, sumTo, show e + 1 + (k - (e + 1)) = k by omega, Nat.mul_add, Nat.add_assoc]
                  · rw [wsum_add, hsub, Nat.mul_add]; omega
                have HINV := hid hinv
                have HM9 := hid hM9
                have HI9 := hid hI9
                have HX9 := hid hX9
                have HG5 := hid g5
                clear hinv hM9 hI9 hX9 g1 g2 g3 g4 g5 g7 hy hw9 hsub q0 q1 q2 q3 q4
                go_wp2
                go_roundw
                case rel => exact ⟨k + 1, _, by omega, by omega, by go_num, hB9, HM9, HI9, HG5, HX9, HINV⟩
                case measure => simp [intOf]; omega
            · have hnd : (seen.push i).toList.Nodup ∧ ∀ j ∈ (seen.push i).toList, j < M.length := by
                rw [Array.toList_push]
                refine ⟨List.nodup_append.2 ⟨HSn.out.1, by simp, ?_⟩, ?_⟩
                · intro a ha b hb e
                  simp at hb
                  subst hb e
                  exact hni ha
                · intro j hj
                  rcases List.mem_append.1 hj with hj | hj
                  · exact HSn.out.2 j hj
                  · simp at hj; omega
              have hlen := nodup_len M.length _ hnd.1 hnd.2
              rw [Array.toList_push, List.length_append, List.length_singleton, Array.length_toList] at hlen
              have hinv : wsum (Wf s.data.toList (m - (r + 1)) (-sg)) M3 = isum (Wf s.data.toList (m - r) sg) M (seen.push i).toList ∧ wsum (fun _ => 1) M3 ≤ 24 * isum (fun _ => 1) M (seen.push i).toList ∧ okM s.size M3 := by
                obtain ⟨j1, j2, j3⟩ := HI7.out
                have hke : k - (e + 1) = s.data.toList.length - (e + 1) := by rw [HBL.out]; omega
                refine ⟨?_, ?_, j3⟩
                · rw [j1, Array.toList_push, isum_append, show m - r = m - (r + 1) + 1 by omega, hke]
                  simp only [isum, HMi.out, Nat.add_zero]
                  rfl
                · rw [Array.toList_push, isum_append]
                  simp only [isum, HMi.out, Nat.add_zero, Nat.mul_one]
                  have : c * (k - (e + 1)) ≤ c * 24 := Nat.mul_le_mul_left _ (by omega)
                  omega
              have HINV := hid hinv
              have HND := hid hnd
              have hse1 := HIt.out.seenN
              have hse2 := HIt7.out.seenN
              rw [Array.size_push] at hse2
              have HSE1 := hid hse1
              have HSE2 := hid hse2
              clear hinv hnd hse1 hse2
              go_wp2
              go_roundw
              case rel => exact ⟨seen.push i, M3, hB7, HMi7, HIt7, HMn7, HND, HINV⟩
              case measure => rw [HSE1.out, HSE2.out]; omega
    · have hrm : m - r = 0 := by omega
      have hI := HI.out
      rw [hrm] at hI
      have htot : wsum (fun _ => 1) M ≤ 331776 := Nat.le_trans hI.2.1 (pow24 r (by omega))
      have HI := hid hI
      have hrg := HM.out.range Try.underlying67
      rw [vl_len] at hrg
      have hIt0 := hid (IterAt.made wr bm M.length)
      have hMm0 := hid (MapIs.alloc HM.out (.mapIter (some bm) M.length #[] M.length))
      have hbm : bm < wr.heap.size := HM.out.lt
      have hB0 := hB.alloc hB.size (.mapIter (some bm) M.length #[] M.length)
      have hdr : decide ((r : Int) < (m : Int)) = false := by simp; omega
      have hgr := hB.size
      clear hI hrm hmm
      go_wp2_with fail
      obtain ⟨ri, hri⟩ : ∃ ri, ri = wr.heap.size := ⟨_, rfl⟩
      rw [← hri] at hIt0 hbm hgr ⊢
      clear hrg hri
      go_loopw [13] (fun ov wx => ∃ (seen : Array Nat) (n : Nat), ov = .int .i64 n ∧ n ≤ 331776 ∧ Below w.heap.size w wx ∧ Hid (MapIs enc5 wx bm (vl M)) ∧ Hid (IterAt wx ri bm M.length seen) ∧ Hid (seen.toList.Nodup ∧ ∀ i ∈ seen.toList, i < M.length) ∧
        Hid (n = isum (Wf s.data.toList 0 sg) M seen.toList ∧ n ≤ isum (fun _ => 1) M seen.toList)) (fun _ wx => M.length - seenN wx ri)
      case atStart => exact ⟨#[], 0, rfl, by omega, hB0, hMm0, hIt0, ⟨by simp, by simp⟩, ⟨rfl, by simp⟩⟩
      case round =>
        obtain ⟨seen, n, rfl, hn, hB3, HMi, HIt, HSn, HI2⟩ := hrel
        have hnxt := MapIs.next (P := Try.prog) HMi.out (by rw [vl_len]; exact HIt.out) 0
        rw [vl_len] at hnxt
        rcases hnxt with ⟨hall, hnx⟩ | ⟨i, x, v, w6, hi, hni, hget, hw6, hnx, hIt6, hMi6, hent⟩
        · have hfin : n = T := by
            rw [HI2.out.1, isum_seen _ _ _ HSn.out.1 HSn.out.2 hall, HI.out.1]
          have HF := hid hfin
          clear hfin hall
          go_wp2_with fail
          go_ret2
          exact ⟨ret_ii (by rw [HF.out]), hB3⟩
        · obtain ⟨c, rfl, hMi⟩ : ∃ c : Nat, v = .int .i64 (c : Int) ∧ M[i]? = some (x, c) := by
            simp only [vl, List.getElem?_map] at hget
            cases hm : M[i]? with
            | none => rw [hm] at hget; cases hget
            | some q => rw [hm] at hget; simp at hget; exact ⟨q.2, hget.2.symm, by rw [← hget.1]⟩
          have hok := HI.out.2.2 (x, c) (List.mem_of_getElem? hMi)
          obtain ⟨x1, d0, d1, d2, d3⟩ := x
          obtain ⟨k1, k2, k3, k4, k5, k6⟩ := hok
          dsimp only at k1 k2 k3 k4 k5 k6
          obtain ⟨e, rfl⟩ := Int.eq_ofNat_of_zero_le k1
          have HMi' := hid hMi
          simp only [enc5] at hnx hent
          have hB6 : Below w.heap.size w w6 := by
            obtain ⟨w0, h0, rfl⟩ := hw6
            refine setBlock_below ?_ hgr _
            rcases h0 with rfl | rfl
            · exact hB3
            · exact hB3.drew
          have hn6' : ri < w6.heap.size := hIt6.lt
          have hnd : (seen.push i).toList.Nodup ∧ ∀ j ∈ (seen.push i).toList, j < M.length := by
            rw [Array.toList_push]
            refine ⟨List.nodup_append.2 ⟨HSn.out.1, by simp, ?_⟩, ?_⟩
            · intro a ha b hb e
              simp at hb
              subst hb e
              exact hni ha
            · intro j hj
              rcases List.mem_append.1 hj with hj | hj
              · exact HSn.out.2 j hj
              · simp at hj; omega
          have hlen := nodup_len M.length _ hnd.1 hnd.2
          rw [Array.toList_push, List.length_append, List.length_singleton, Array.length_toList] at hlen
          have hsb := isum_le M _ hnd.1 hnd.2
          rw [Array.toList_push, isum_append] at hsb
          simp only [isum, hMi, Nat.add_zero, Nat.mul_one] at hsb
          have hnc : n + c ≤ 331776 := by have := HI2.out.2; omega
          obtain ⟨z, hz⟩ : ∃ z, z = good s.data.toList sg ((e : Int), d0, d1, d2, d3) := ⟨_, rfl⟩
          have hinv : n + (if z then c else 0) = isum (Wf s.data.toList 0 sg) M (seen.push i).toList ∧ n + (if z then c else 0) ≤ isum (fun _ => 1) M (seen.push i).toList := by
            rw [Array.toList_push, isum_append, isum_append]
            have hWx : Wf s.data.toList 0 sg ((e : Int), d0, d1, d2, d3) = if z then 1 else 0 := by rw [hz]; rfl
            simp only [isum, hMi, Nat.add_zero, Nat.mul_one, hWx]
            obtain ⟨j1, j2⟩ := HI2.out
            cases z
            · simp only [Bool.false_eq_true, if_false, Nat.mul_zero, Nat.add_zero]; omega
            · simp only [if_true, Nat.mul_one]; omega
          have HINV := hid hinv
          have HND := hid hnd
          have HIt6 := hid hIt6
          have HMi6 := hid hMi6
          have HZ := hid hz
          clear hMi hget hw6 hIt6 hMi6 k1 hnd hinv hz hsb
          have hBx : Blk (w6.alloc (.cells #[.int .i64 (e : Int), .int .i64 d0, .int .i64 d1, .int .i64 d2, .int .i64 d3] 66)) w6.heap.size #[.int .i64 (e : Int), .int .i64 d0, .int .i64 d1, .int .i64 d2, .int .i64 d3] 66 := Blk.new _ _ _
          have q0 := hBx.cell 0
          have q1 := hBx.cell 1
          have q2 := hBx.cell 2
          have q3 := hBx.cell 3
          have q4 := hBx.cell 4
          simp only [List.getElem?_toArray, List.getElem?_cons_zero, List.getElem?_cons_succ] at q0 q1 q2 q3 q4
          have h0B := hB6.alloc hB6.size (.cells #[.int .i64 (e : Int), .int .i64 d0, .int .i64 d1, .int .i64 d2, .int .i64 d3] 66)
          have hMi0 := hid (MapIs.alloc HMi6.out (.cells #[.int .i64 (e : Int), .int .i64 d0, .int .i64 d1, .int .i64 d2, .int .i64 d3] 66))
          have hIt0 := hid (IterAt.alloc HIt6.out (.cells #[.int .i64 (e : Int), .int .i64 d0, .int .i64 d1, .int .i64 d2, .int .i64 d3] 66))
          obtain ⟨W, hW⟩ : ∃ W, W = w6.alloc (.cells #[.int .i64 (e : Int), .int .i64 d0, .int .i64 d1, .int .i64 d2, .int .i64 d3] 66) := ⟨_, rfl⟩
          obtain ⟨p, hp⟩ : ∃ p, p = s.extract e s.size := ⟨_, rfl⟩
          have hps : p.size ≤ 100 := by rw [hp]; simp; omega
          have hpo : p.data.toList.all okb = true := by rw [hp]; exact extract_ok s e s.size HOK.out
          have hpd : p.data.toList = s.data.toList.drop e := by rw [hp, data_extract, List.take_of_length_le (by rw [List.length_drop, bytes_len]; omega)]
          have hE : ∀ W, (Op.equalIn 10000 52 (.agg #[.int .i64 (d0 + sg * cn p.data.toList 0), .int .i64 (d1 + sg * cn p.data.toList 1), .int .i64 (d2 + sg * cn p.data.toList 2), .int .i64 (d3 + sg * cn p.data.toList 3)]) (.agg #[.int .i64 0, .int .i64 0, .int .i64 0, .int .i64 0])).run Try.prog W = .ok z W := by
            intro W
            rw [eq4c, HZ.out, hpd]
            rfl
          have HP := hid hp
          have HPO := hid hpo
          have i1 : (0 : Int) ≤ (e : Int) := by omega
          have i3 : (e : Int) ≤ (s.size : Int) := by omega
          have i5 : e ≤ s.size := by omega
          clear hBx hp hpo hpd
          go_wp2_with fail
          go_region_with (go_at_call 53; rw [← HP.out]; refine (ways1_four d0 d1 d2 d3 p sg _ hps HPO.out HSG.out (by omega) (by omega) (by omega) (by omega)).mono ?_; rintro e7 w7 ⟨rfl, hb7⟩)
          all_goals
            have hB7 : Below w.heap.size w w7 := h0B.drew.trans (hb7.mono h0B.size)
            have hb7' : Below (w6.alloc (.cells #[.int .i64 (e : Int), .int .i64 d0, .int .i64 d1, .int .i64 d2, .int .i64 d3] 66)).heap.size (w6.alloc (.cells #[.int .i64 (e : Int), .int .i64 d0, .int .i64 d1, .int .i64 d2, .int .i64 d3] 66)) w7 := ((Below.refl _ _).drew).trans hb7
            have HM7 := hid (hMi0.out.below hb7' hMi0.out.lt)
            have HI7 := hid (hIt0.out.below hb7' hIt0.out.lt)
            have hse1 := HIt.out.seenN
            have hse2 := HI7.out.seenN
            rw [Array.size_push] at hse2
            have HSE1 := hid hse1
            have HSE2 := hid hse2
            clear hse1 hse2 q0 q1 q2 q3 q4
            cases z
            · go_wp2
              go_roundw
              case rel =>
                have HN := hid (show n = isum (Wf s.data.toList 0 sg) M (seen.push i).toList ∧ n ≤ isum (fun _ => 1) M (seen.push i).toList from by have h := HINV.out; rw [if_neg (by simp), Nat.add_zero] at h; exact h)
                (repeat apply Exists.intro); exact ⟨⟨seen.push i, n, rfl, hn, hB7, HM7, HI7, HND, HN⟩, rfl⟩
              case measure => rw [HSE1.out, HSE2.out]; omega
            · go_wp2
              go_roundw
              case rel => exact ⟨seen.push i, n + c, by go_num, hnc, hB7, HM7, HI7, HND, (by have h := HINV.out; rw [if_pos rfl] at h; exact h)⟩
              case measure => rw [HSE1.out, HSE2.out]; omega
end Go.Proofs.Ythelnggbcgjbcaa
