/-
  Walks: the order with a table.
-/
import Derived.Test.YtkmpdcckgibkhaaGreatOa
namespace Go.Proofs.YtkmpdcckgibkhaaGreat
open Go.RowKit

/-- The numbers that a table picks, one after another, out of those that are left. -/
def pickGo : List Int → List Nat → List Int
  | _, [] => []
  | left, d :: r => left.getD d 0 :: pickGo (left.eraseIdx d) r
def upL (n : Nat) : List Int := (List.range n).map fun i => ((i : Nat) : Int) + 1
def orderOf (D : List Nat) : List Int := pickGo (upL D.length) D
/-- A table of a list with so many numbers left. -/
def okGo : Nat → List Nat → Bool
  | _, [] => true
  | m, d :: r => decide (d < m) && okGo (m - 1) r
def digT (D : List Nat) (k : Nat) (i : Nat) : Int := if i < k then ((D.getD i 0 : Nat) : Int) else 0
theorem pick_len : ∀ (D : List Nat) (l : List Int), (pickGo l D).length = D.length := by
  intro D
  induction D with
  | nil => intro l; rfl
  | cons d r ih => intro l; simp [pickGo, ih]
theorem upL_len (n : Nat) : (upL n).length = n := by simp [upL]
theorem upL_succ (n : Nat) : upL (n + 1) = upL n ++ [(n : Int) + 1] := by simp [upL, List.range_succ]

theorem eq12 (a0 a1 a2 a3 a4 a5 a6 a7 a8 a9 a10 a11 : Int) (w : World) : (Op.equalIn 10000 93 (.agg #[.int .i64 a0, .int .i64 a1, .int .i64 a2, .int .i64 a3, .int .i64 a4, .int .i64 a5, .int .i64 a6, .int .i64 a7, .int .i64 a8, .int .i64 a9, .int .i64 a10, .int .i64 a11])
    (.agg #[.int .i64 a0, .int .i64 a1, .int .i64 a2, .int .i64 a3, .int .i64 a4, .int .i64 a5, .int .i64 a6, .int .i64 a7, .int .i64 a8, .int .i64 a9, .int .i64 a10, .int .i64 a11])).run Tryz.prog w = .ok true w := by
  have hu : ∀ w, (underlying 93).run Tryz.prog w = .ok (.array 12 3) w := fun w => Tryz.runUnderlying93 w
  have hs : ∀ w, (sizeOf 3).run Tryz.prog w = .ok 1 w := fun w => Tryz.sizeOf3 w
  have hg : ∀ w, (isAgg 3).run Tryz.prog w = .ok false w := fun w => Tryz.isAgg3 w
  rw [show (10000 : Nat) = 9999 + 1 from rfl, Op.equalIn]
  simp [hu, Sem.run_bind, go_sem, hs, List.range'_succ, hg, eqi]

/-- What the loop of Order keeps: what is left, what is out, the table that is wanted. -/
structure OrdI (w : World) (b : Nat) (D : List Nat) (k : Nat) (v4 v5 : Value) (W : World) : Prop where
  below : Below w.heap.size w W
  base : w.heap.size ≤ b
  left : ∃ L : List Int, W.ownsRow w.heap.size 3 1 v4 L.length (L.map (Value.int .i64)) ∧ L.length = D.length - k ∧ ∃ O : List Int, W.ownsRow w.heap.size 3 1 v5 k (O.map (Value.int .i64)) ∧ O.length = k ∧ O ++ pickGo L (D.drop k) = orderOf D
  want : Blk W b (rowA (digT D k) 12) 93
  ne45 : v4.ownBlock = none ∨ v4.ownBlock ≠ v5.ownBlock
  ne4 : v4.ownBlock ≠ some b
  ne5 : v5.ownBlock ≠ some b

theorem grownBy_set (W : World) (b k : Nat) (v : Value) : W.grownBy (W.setCell ⟨b, k, none⟩ v) (some b) :=
  ⟨rfl, rfl, rfl, by simp, fun j _ hne => Below.heap_setCell W ⟨b, k, none⟩ v j (fun e => hne (by rw [e]))⟩
theorem own_some {w : World} {base : Nat} {v : Value} {L : List Int} (h : w.ownsRow base 3 1 v L.length (L.map (Value.int .i64))) (h0 : 0 < L.length) : ∃ g c, v = .slice (some ⟨g, 0, none⟩) L.length c ∧ base ≤ g ∧ g < w.heap.size ∧ L.length ≤ c := by
  rcases h.2 with ⟨-, h1⟩ | ⟨g, c, cur, hv, hg, hb, hn, -, -, -⟩
  · omega
  · exact ⟨g, c, hv, hg, lt_of_block hb, hn⟩
theorem own_cell {w : World} {base g c : Nat} {L : List Int} (h : w.ownsRow base 3 1 (.slice (some ⟨g, 0, none⟩) L.length c) L.length (L.map (Value.int .i64))) (i : Nat) (x : Int) (hx : L[i]? = some x) : w.cell? ⟨g, i, none⟩ = some (.int .i64 x) := by
  have h0 : 0 < L.length := by have := (List.getElem?_eq_some_iff.1 hx).1; omega
  obtain ⟨a, c', hv, hi⟩ := ownsRow_ints h
  obtain ⟨g', o', rfl, -, hc⟩ := hi.at h0
  simp only [Value.slice.injEq, Option.some.injEq, Addr.mk.injEq] at hv
  obtain ⟨⟨rfl, rfl, -⟩, -, -⟩ := hv
  have := hc i x hx
  rwa [Nat.zero_add] at this
theorem okGo_step (D : List Nat) (m k : Nat) (d : Nat) (hk : D[k]? = some d) (h : okGo m (D.drop k) = true) : d < m ∧ okGo (m - 1) (D.drop (k + 1)) = true := by
  have hl : k < D.length := (List.getElem?_eq_some_iff.1 hk).1
  rw [List.drop_eq_getElem_cons hl] at h
  rw [List.getElem?_eq_getElem hl] at hk
  cases hk
  simpa [okGo] using h
theorem pick_step (D : List Nat) (k d : Nat) (L : List Int) (hk : D[k]? = some d) : pickGo L (D.drop k) = L.getD d 0 :: pickGo (L.eraseIdx d) (D.drop (k + 1)) := by
  have hl : k < D.length := (List.getElem?_eq_some_iff.1 hk).1
  rw [List.drop_eq_getElem_cons hl]
  rw [List.getElem?_eq_getElem hl] at hk
  cases hk
  rfl

theorem OrdI.step {w w2 w3 : World} {b k d g4 c4 : Nat} {D : List Nat} {L O : List Int} {y : Int} {v5 : Value} (hbase : w.heap.size ≤ b) (hg4 : w.heap.size ≤ g4)
    (hown5 : w2.ownsRow w.heap.size 3 1 v5 (k + 1) (O.map (Value.int .i64) ++ [.int .i64 y])) (w2' : Blk w2 b (rowA (digT D (k + 1)) 12) 93) (hb2 : Below w.heap.size w w2) (hn5 : v5.ownBlock ≠ some g4) (hn5b : v5.ownBlock ≠ some b) (hn4 : b ≠ g4)
    (hown3 : w3.ownsRow w.heap.size 3 1 (.slice (some ⟨g4, 0, none⟩) (L.length - 1) c4) (L.length - 1) ((L.eraseIdx d).map (Value.int .i64))) (hg3 : w2.grownBy w3 (some g4)) (hd : D[k]? = some d) (hy : L[d]? = some y)
    (hLl : L.length = D.length - k) (hOl : O.length = k) (hR : O ++ pickGo L (D.drop k) = orderOf D) (hdL : d < L.length) : OrdI w b D (k + 1) (.slice (some ⟨g4, 0, none⟩) (L.length - 1) c4) v5 w3 := by
  have hle : (L.eraseIdx d).length = L.length - 1 := List.length_eraseIdx_of_lt hdL
  refine ⟨hb2.grown hg3 hb2.size (by rintro k ⟨⟩; exact hg4), hbase, ⟨L.eraseIdx d, by rw [hle]; exact hown3, by rw [hle, hLl]; omega, O ++ [y], ?_, by rw [List.length_append, hOl]; rfl, ?_⟩, ?_, .inr (fun e => hn5 e.symm), fun e => hn4 (by cases e; rfl), hn5b⟩
  · rw [List.map_append]; exact hown5.kept hg3 (.inr hn5)
  · rw [← hR, pick_step D k d L hd, List.append_assoc]; congr 1; simp [List.getD, hy]
  · exact (hg3.block b w2'.lt (fun e => hn4 (by cases e; rfl))).trans w2'

set_option maxRecDepth 100000 in
set_option maxHeartbeats 4000000 in
theorem order_ok (a : Option Addr) (c : Nat) (D : List Nat) (w : World) (hi : Ints w a (D.map fun d => ((d : Nat) : Int))) (hl : D.length ≤ 12) (hok : okGo D.length D = true) (hT : tabV (orderOf D) = rowA (digT D D.length) 12) :
    Calls Tryz.prog 24 #[.slice a D.length c] w fun e w' => ∃ a' c', e = .returned (.tuple #[.slice a' D.length c', .int .i64 0]) ∧ Ints w' a' (orderOf D) ∧ Below w.heap.size w w' := by
  have HI := hid hi
  have HOK := hid hok
  have HT := hid hT
  clear hi hok hT
  have hlI : (D.length : Int) ≤ 12 := by omega
  have hz : (#[.int .i64 0, .int .i64 0, .int .i64 0, .int .i64 0, .int .i64 0, .int .i64 0, .int .i64 0, .int .i64 0, .int .i64 0, .int .i64 0, .int .i64 0, .int .i64 0] : Array Value) = rowA (digT D 0) 12 := by
    rw [rowA_congr (f := digT D 0) (g := fun _ => 0) fun i _ => by simp [digT]]; rfl
  go_enter Tryz.func24, Tryz.ntmps24
  go_wp2_with fail
  go_loopw [4, 15] (fun v jv W => ∃ j : Nat, j ≤ D.length ∧ jv = .int .i64 j ∧ Below w.heap.size w W ∧ W.ownsRow w.heap.size 3 1 v j ((upL j).map (Value.int .i64))) (fun _ jv _ => D.length - (intOf jv).toNat)
  case atStart => exact ⟨0, by omega, rfl, Below.refl _ _, ⟨rfl, .inl ⟨rfl, rfl⟩⟩⟩
  case round =>
    obtain ⟨j, hj, rfl, hB, hown⟩ := hrel
    by_cases hlt : j < D.length
    · have hw1 : IntKind.i64.wrap ((j : Int) + 1) = (j : Int) + 1 := IntWalk.i64_in _ (by omega)
      have hw2 : wrap64 ((j : Int) + 1) = (j : Int) + 1 := by unfold wrap64; omega
      go_wp2_with (at_builtin; go_must (refine wpList_app _ rfl (.tmp 18) (.tmp 21) 24 rfl w.heap.size 3 (.int .i64 0) 8 Tryz.underlying24 infoS3 rfl _ j _ rfl (hown.alloc _) (some ⟨wr.heap.size, 0, none⟩) 1 1 [.int .i64 _] rfl rfl (vals_new _ _ _ _ rfl) (fun h => by cases h) (by simp [Value.oneCell']) (by omega) (by omega) (by have := hB.size; simp; omega) ?_))
      intro v' w1 hown' hgrow _
      have hB' := below_app (hB.alloc hB.size _) hgrow (hown.alloc _) (by have := hB.size; simp; omega) (Nat.le_refl _)
      have hown2 : w1.ownsRow w.heap.size 3 1 v' (j + 1) ((upL (j + 1)).map (Value.int .i64)) := by
        rw [upL_succ, List.map_append]
        exact hown'
      clear hown' hgrow hown hB
      go_wp2_with fail
      exact ⟨⟨j + 1, by omega, by go_num, hB', hown2⟩, by simp [intOf]; omega⟩
    · have hje : j = D.length := by omega
      subst hje
      have HB := hid (And.intro (hB.alloc hB.size (.cells (rowA (digT D 0) 12) 93)) (And.intro (hown.alloc (.cells (rowA (digT D 0) 12) 93)) (And.intro (Blk.new wr (rowA (digT D 0) 12) 93) (And.intro hB.size (fun g h => (hown.lt g h).2 : ∀ g, u4.ownBlock = some g → g < wr.heap.size)))))
      clear hB hown
      go_wp2_with fail
      obtain ⟨b, hb⟩ : ∃ b, b = wr.heap.size := ⟨_, rfl⟩
      rw [← hb] at HB ⊢
      generalize wr.alloc (.cells (rowA (digT D 0) 12) 93) = W0 at *
      clear hb
      go_loopw [4, 5, 26] (fun v4 v5 kv W => ∃ k : Nat, k ≤ D.length ∧ kv = .int .i64 k ∧ OrdI w b D k v4 v5 W ∧ Hid (okGo (D.length - k) (D.drop k) = true)) (fun _ _ kv _ => D.length - (intOf kv).toNat)
      case atStart =>
        refine ⟨0, by omega, rfl, ⟨HB.out.1, HB.out.2.2.2.1, ⟨upL D.length, by rw [upL_len]; exact HB.out.2.1, by rw [upL_len]; rfl, [], ⟨rfl, .inl ⟨rfl, rfl⟩⟩, rfl, rfl⟩, HB.out.2.2.1, ?_, fun e => by have := HB.out.2.2.2.2 _ e; omega, fun e => by cases e⟩, HOK.out⟩
        cases h : u4.ownBlock with
        | none => exact .inl rfl
        | some x => exact .inr (by simp [Value.ownBlock])
      case round =>
        obtain ⟨k, hk, rfl, hO, HG⟩ := hrel
        obtain ⟨L, hL, hLl, O, hOo, hOl, hR⟩ := hO.left
        by_cases hlt : k < D.length
        · obtain ⟨d, hd, -⟩ := list_drop_cons D k hlt
          obtain ⟨hdm, hok2⟩ := okGo_step D _ k d hd HG.out
          obtain ⟨g, o, rfl, hg, hcell⟩ := (HI.out.below hO.below (Nat.le_refl _)).at (by simp; omega)
          have q1 := hcell k ((d : Nat) : Int) (by simp [hd])
          obtain ⟨g4, c4, rfl, hg4, hg4l, hc4⟩ := own_some hL (by omega)
          have hdL : d < L.length := by omega
          have HM := hid (show D.length - (k + 1) < D.length - k by omega)
          have HG2 := hid (show okGo (D.length - (k + 1)) (D.drop (k + 1)) = true by have := hok2; rwa [show D.length - k - 1 = D.length - (k + 1) by omega] at this)
          have HN4 := hid (show b ≠ g4 from fun e => hO.ne4 (by rw [e]; rfl))
          have HR := hid hR
          have HPK := hid (pick_step D k d L hd)
          have b1 := hO.want.rowAt k (by omega)
          have b2 := hO.want.free k
          have hs1 := grownBy_set wr b k (.int .i64 ((d : Nat) : Int))
          have hL1 := hL.kept hs1 (.inr hO.ne4)
          have hO1 := hOo.kept hs1 (.inr hO.ne5)
          have w1 := hO.want.rowPut (g := digT D (k + 1)) k ((d : Nat) : Int) (fun i _ => by
            unfold digT
            by_cases h1 : i = k
            · subst h1; rw [if_pos rfl, if_pos (by omega)]; simp [List.getD, hd]
            · rw [if_neg h1]
              by_cases h2 : i < k
              · rw [if_pos h2, if_pos (by omega)]
              · rw [if_neg h2, if_neg (by omega)])
          have hb1 : Below w.heap.size w (wr.setCell ⟨b, k, none⟩ (.int .i64 ((d : Nat) : Int))) := hO.below.setCell hO.base _
          obtain ⟨y, hy⟩ : ∃ y, L[d]? = some y := ⟨L[d], List.getElem?_eq_getElem hdL⟩
          have q4 := own_cell hL1 d y hy
          have HY := hid hy
          have i1 : (0 : Int) ≤ (k : Int) := by omega
          have i2 : (k : Int) < 12 := by omega
          have i3 : (d : Int) < (L.length : Int) := by omega
          have i4 : (k : Int) < (D.length : Int) := by omega
          have HO := hid hO
          have HL1 := hid hL1
          have HO1 := hid (And.intro hO1 (And.intro w1 hb1))
          have HD := hid (And.intro hd (And.intro hok2 hLl))
          have HQ := hid (And.intro hL (And.intro hOo hOl))
          clear hO hL1 hO1 w1 hb1 hd hok2 hLl hL hOo hOl hy hs1 hcell hR
          go_wp2_with fail
          refine (within22_yes _ _ _ _ (by omega) (by unfold wrap64; have := HD.out.2.2; omega)).mono ?_
          rintro e w1 ⟨rfl, rfl⟩
          have hvn : Vals ((wr.setCell ⟨b, k, none⟩ (.int .i64 ((d : Nat) : Int))).alloc (.cells #[.int .i64 y] 3)) (some ⟨wr.heap.size, 0, none⟩) [.int .i64 y] := by simpa using vals_new (wr.setCell ⟨b, k, none⟩ (.int .i64 ((d : Nat) : Int))) #[.int .i64 y] 3 _ rfl
          have HVN := hid hvn
          clear hvn
          go_wp2_with (first | (at_builtin; go_must (refine wpList_app2 _ rfl (.tmp 40) (.tmp 45) 24 rfl w.heap.size 3 (.int .i64 0) 8 Tryz.underlying24 infoS3 rfl _ k _ rfl (HO1.out.1.alloc _) (some ⟨wr.heap.size, 0, none⟩) 1 1 [.int .i64 y] rfl rfl HVN.out (fun h => by cases h) (by simp [Value.oneCell']) (by omega) (by omega) (by have := HO1.out.2.2.size; simp at this ⊢; omega) ?_)))
          intro v5 w2 hown5 hgrow5 hloc5
          have hO := HO.out
          have hszA : ((wr.setCell ⟨b, k, none⟩ (.int .i64 ((d : Nat) : Int))).alloc (.cells #[.int .i64 y] 3)).heap.size = wr.heap.size + 1 := by simp
          have hbw := hO.want.lt
          have hb2 := below_app (HO1.out.2.2.alloc HO1.out.2.2.size (.cells #[.int .i64 y] 3)) hgrow5 (HO1.out.1.alloc _) (by have := HO1.out.2.2.size; simp at this ⊢; omega) (Nat.le_refl _)
          have hL2 := (HL1.out.alloc (.cells #[.int .i64 y] 3)).kept hgrow5 hO.ne45
          have w2' : Blk w2 b (rowA (digT D (k + 1)) 12) 93 := (hgrow5.block b (by omega) (fun e => hO.ne5 e.symm)).trans (HO1.out.2.1.alloc _)
          have hn5 : v5.ownBlock ≠ some g4 := by
            rcases hloc5 with h | h
            · rw [h]; rcases hO.ne45 with h' | h'
              · cases h'
              · exact fun e => h' e.symm
            · rw [h]
              intro e; simp at e; omega
          have hn5b : v5.ownBlock ≠ some b := by
            rcases hloc5 with h | h
            · rw [h]; exact hO.ne5
            · rw [h]
              intro e; simp at e; omega
          have hn4 := hO.ne4
          have C := hid (delete50 w.heap.size g4 c4 d L w2 hL2 hdL)
          have H2 := hid (And.intro hown5 (And.intro w2' (And.intro hb2 (And.intro hn5 (And.intro hn5b hn4)))))
          have hw1 : IntKind.i64.wrap ((d : Int) + 1) = (d : Int) + 1 := IntWalk.i64_in _ (by omega)
          have hw2 : wrap64 ((d : Int) + 1) = (d : Int) + 1 := by unfold wrap64; omega
          clear hO hszA hb2 hL2 w2' hn5 hn5b hn4 hloc5 hgrow5 hown5
          go_wp2_with fail
          refine C.out.mono ?_
          rintro e w3 ⟨rfl, hown3, hg3⟩
          obtain ⟨hown5, w2', hb2, hn5, hn5b, hn4⟩ := H2.out
          have HF := hid (OrdI.step HO.out.base hg4 hown5 w2' hb2 hn5 hn5b HN4.out hown3 hg3 HD.out.1 HY.out HD.out.2.2 HQ.out.2.2 HR.out hdL)
          clear hown3 hg3 hown5 w2' hb2 hn5 hn5b hn4 C H2 HO HL1 HO1 HD HQ HVN HR HPK HY
          go_wp2_with fail
          exact ⟨⟨k + 1, hlt, by go_num, HF.out, HG2.out⟩, by simpa [intOf] using HM.out⟩
        · have hke : k = D.length := by omega
          subst hke
          have hRe : O = orderOf D := by rw [← hR, List.drop_eq_nil_of_le (Nat.le_refl _)]; simp [pickGo]
          obtain ⟨a5, c5, rfl, hi5⟩ := ownsRow_ints (l := O) (hOl ▸ hOo)
          have hf5 := (ownsRow_facts (hOl ▸ hOo)).2.1
          rw [hOl] at hOo
          have hB := hO.below
          have T := table_any a5 c5 O wr.drew hi5 (by omega) (by omega)
          have hwt := hO.want
          have hTV : tabV O = rowA (digT D D.length) 12 := by rw [hRe]; exact HT.out
          rw [hTV] at T
          have hF := hid (And.intro hRe (And.intro hi5 hOl))
          clear hR hO hL hOo hTV HT HI HOK HG HB hi5 hz
          generalize digT D D.length = f at *
          rw [show rowA f 12 = #[.int .i64 (f 0), .int .i64 (f 1), .int .i64 (f 2), .int .i64 (f 3), .int .i64 (f 4), .int .i64 (f 5), .int .i64 (f 6), .int .i64 (f 7), .int .i64 (f 8), .int .i64 (f 9), .int .i64 (f 10), .int .i64 (f 11)] from rfl] at T
          have hlen : (O.length : Int) = (D.length : Int) := by rw [hOl]
          rw [hOl] at T
          obtain ⟨r0, r1, r2, r3, r4, r5, r6, r7, r8, r9, r10, r11⟩ := hwt.cells12
          have TW := hid (fun (w5 : World) (hb5 : Below wr.drew.heap.size wr.drew w5) => (Blk.below (w := wr.drew) hwt hb5 hwt.lt).cells12)
          have heq := eq12 (f 0) (f 1) (f 2) (f 3) (f 4) (f 5) (f 6) (f 7) (f 8) (f 9) (f 10) (f 11)
          have T2 := hid T
          have HBW := hid hB
          have HI5 := hid (fun (w5 : World) (hb5 : Below wr.drew.heap.size wr.drew w5) => (Ints.below (w := wr.drew) hF.out.2.1 hb5 (Nat.le_refl _) : Ints w5 a5 O))
          clear hwt T hlen
          generalize f 0 = x0 at *
          generalize f 1 = x1 at *
          generalize f 2 = x2 at *
          generalize f 3 = x3 at *
          generalize f 4 = x4 at *
          generalize f 5 = x5 at *
          generalize f 6 = x6 at *
          generalize f 7 = x7 at *
          generalize f 8 = x8 at *
          generalize f 9 = x9 at *
          generalize f 10 = x10 at *
          generalize f 11 = x11 at *
          rw [hOl]
          go_wp2_with fail
          go_region_with (go_at_call 51; refine T2.out.mono ?_; rintro e w5 ⟨rfl, hb5⟩; obtain ⟨r0, r1, r2, r3, r4, r5, r6, r7, r8, r9, r10, r11⟩ := TW.out _ hb5; clear TW; have HB5 := hid hb5; clear hb5)
          all_goals (go_wp2_with fail; go_ret2; exact ⟨a5, c5, rfl, hF.out.1 ▸ HI5.out _ HB5.out, HBW.out.drew.trans (HB5.out.mono HBW.out.size)⟩)

end Go.Proofs.YtkmpdcckgibkhaaGreat
