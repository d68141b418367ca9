/-
  Texts merged: Oa, Ob, Oc, Od, Oe, Of, Og, Oh.
-/
import Derived.Test.YtkmpdcckgibkhaaGreatTa
import Derived.Shelf.RegionOpenPlain
import Derived.Lib.Walk
import Derived.Sort.WalkB12
import Derived.Lib.SliceRun
import Derived.Lib.SlicesDelete
import Derived.Sort.OwnSortedInts
import Derived.Test.YtkmpdcckgibkhaaGreatI
import Derived.Test.YtkmpdcckgibkhaaGreatL
/-
  Walks: slices.Delete on a row of numbers (the walk of the kit's text on slices.Delete, turned to this program's numbers).
-/
namespace Go.Proofs.YtkmpdcckgibkhaaGreat
open Go.RowKit Go.Lib Go.Sort

set_option maxHeartbeats 4000000 in
set_option maxRecDepth 1000000 in
/-- slices.Delete over an array. -/
theorem delete_arr50 (blk off cap i j : Nat) (d : Array Int) (w : World) (hH : Holds encI w blk off d) (hcap : d.size ≤ cap) (hm : cap ≤ 9223372036854775807) (hij : i ≤ j) (hj : j ≤ d.size) :
    Calls Tryz.prog 50 #[.slice (some ⟨blk, off, none⟩) d.size cap, .int .i64 i, .int .i64 j] w fun e w' => e = .returned (.slice (some ⟨blk, off, none⟩) (d.size - (j - i)) cap) ∧ ∃ q, w' = putRow encI (Sort.ahead w q) blk off (d.toList.take i ++ d.toList.drop j ++ List.replicate (j - i) 0).toArray := by
  obtain ⟨i0, hi0, hz0, hz1, hz2⟩ := info_parts infoS3
  have t22 := Tryz.underlying24
  have v23 := zero3
  have mixed : Tryz.prog.follows Departure.mixedOrders = true := by kernel_rfl
  by_cases heq : i = j
  · subst heq
    have h0 : Calls Tryz.prog 50 #[.slice (some ⟨blk, off, none⟩) d.size cap, .int .i64 i, .int .i64 i] w fun e w' => e = .returned (.slice (some ⟨blk, off, none⟩) d.size cap) ∧ w' = w := by
      clear hH
      go_enter Tryz.func50, Tryz.ntmps50
      go_wp2
      all_goals (go_ret; exact ⟨rfl, rfl⟩)
    refine h0.mono ?_
    rintro e w' ⟨rfl, rfl⟩
    have e : (d.toList.take i ++ d.toList.drop i ++ List.replicate (i - i) 0).toArray = d := by simp
    refine ⟨by rw [Nat.sub_self, Nat.sub_zero], 0, ?_⟩
    rw [e]
    exact (putRow_self encI (Sort.ahead w' 0) blk off d hH).symm
  · have hlt : i < j := by omega
    -- the cells that are moved to the left
    obtain ⟨news, hnews⟩ : ∃ news, news = (d.toList.drop j).map encI := ⟨_, rfl⟩
    have hlen : news.length = d.size - j := by rw [hnews]; simp
    have hget : ∀ t, t < d.size - j → news[t]? = some (encI d[j + t]!) := by
      intro t ht
      rw [hnews, List.getElem?_map, List.getElem?_drop, Array.getElem?_toList, getElem!_pos d (j + t) (by omega), Array.getElem?_eq_getElem (by omega)]
      rfl
    obtain ⟨A, hA, hsrc⟩ : ∃ A : Addr, (if cap = j then some (⟨blk, off, none⟩ : Addr) else some ⟨blk, off + j, none⟩) = some A ∧ Hid (∀ t u, news[t]? = some u → w.drew.cell? (A.add t) = some u) := by
      by_cases h : cap = j
      · refine ⟨⟨blk, off, none⟩, by simp [h], fun t u hu => ?_⟩
        have h0 : news.length = 0 := by rw [hlen]; omega
        rw [List.length_eq_zero_iff.1 h0] at hu
        simp at hu
      · refine ⟨⟨blk, off + j, none⟩, by simp [h], fun t u hu => ?_⟩
        have ht : t < d.size - j := by
          have := (List.getElem?_eq_some_iff.1 hu).1
          rwa [hlen] at this
        rw [hget t ht] at hu
        rw [Addr.add_lit, show off + j + t = off + (j + t) by omega]
        exact (hH (j + t) (by omega)).1.trans hu
    have s1 : Hid (news.length = (d.size - j) * 1) := by rw [Nat.mul_one]; exact hlen
    have s2 : Hid (∀ u ∈ news, u.oneCell' = true) := by
      intro u hu
      rw [hnews] at hu
      obtain ⟨x, _, rfl⟩ := List.mem_map.1 hu
      rfl
    have s3 : Hid (∀ t, t < news.length → (w.drew.cell? ⟨blk, off + i * 1 + t, none⟩).isSome = true ∧ w.drew.frozen? ⟨blk, off + i * 1 + t, none⟩ = false) := by
      intro t ht
      rw [hlen] at ht
      rw [Nat.mul_one, Nat.add_assoc]
      exact ⟨by show (w.cell? _).isSome = true; rw [(hH (i + t) (by omega)).1]; rfl, (hH (i + t) (by omega)).2⟩
    -- the world behind the append, behind a name
    obtain ⟨W1, hW1⟩ : ∃ W1, W1 = w.drew.setCells blk (off + i * 1) news := ⟨_, rfl⟩
    have hW1' : W1 = putRow encI (Sort.ahead w 1) blk off (lay d i (d.toList.drop j)) := by
      rw [hW1, hnews, Nat.mul_one, ← putRow_setCells encI (Sort.ahead w 1) blk off _ d i (by simp; omega), putRow_self encI (Sort.ahead w 1) blk off d (holds_ahead encI w 1 blk off d hH)]
      rfl
    have hH1 : Holds encI W1 blk off (lay d i (d.toList.drop j)) := by rw [hW1']; exact holds_putRow encI _ blk off d _ (holds_ahead encI w 1 blk off d hH) (lay_size _ _ _)
    have hcl : ∀ ty, (Builtin.clear_ #[24] ty #[.slice (some ⟨blk, off + (i + (d.size - j)), none⟩) (d.size - (i + (d.size - j))) (cap - (i + (d.size - j)))]).run Tryz.prog W1 = .ok (.tuple #[]) (W1.setCells blk (off + (i + (d.size - j))) (List.replicate (d.size - (i + (d.size - j))) (encI 0))) :=
      fun ty => Lib.run_clear_slice W1 _ _ ty _ t22 v23 rfl rfl blk (off + (i + (d.size - j))) _ _ (by omega) (fun t ht => by rw [show off + (i + (d.size - j)) + t = off + (i + (d.size - j) + t) by omega, (hH1 _ (by rw [lay_size]; omega)).1]; rfl) (fun t ht => by rw [show off + (i + (d.size - j)) + t = off + (i + (d.size - j) + t) by omega]; exact (hH1 _ (by rw [lay_size]; omega)).2)
    have X : Aside (W1 = putRow encI (Sort.ahead w 1) blk off (lay d i (d.toList.drop j))) := hW1'
    have hW : Hid (W1 = w.drew.setCells blk (off + i * 1) news) := hW1
    have hic : i ≤ cap := by omega
    have hjc : j ≤ cap := by omega
    clear hW1 hW1' hH1 hH hget hnews hlen
    go_enter Tryz.func50, Tryz.ntmps50
    go_wp2_with fail
    go_region_law_o (refine step_append_room rfl (.tmp 22) (.tmp 25) 24 rfl 3 i0 1 t22 hi0 hz1 blk off i cap (by simp [Act.eval, Act.put]) A (d.size - j) (cap - j) news (by simp [Act.eval, Act.put]) s1.out hsrc.out s2.out (by omega) s3.out ?_; rw [← hW.out])
    go_wp2
    go_ret
    refine ⟨by rw [show d.size - (j - i) = i + (d.size - j) by omega]; rfl, 1, ?_⟩
    rw [← delete_arr d i j 0 hij hj, ← putRow_setCells encI _ blk off _ _ (i + (d.size - j)) (by rw [lay_size]; simp; omega), ← X.out, List.map_replicate, show d.size - (i + (d.size - j)) = j - i by omega]

/-- slices.Delete of one element of a row of the call's own. -/
theorem delete50 (base g cap i : Nat) (L : List Int) (w : World) (hown : w.ownsRow base 3 1 (.slice (some ⟨g, 0, none⟩) L.length cap) L.length (L.map (Value.int .i64))) (hi : i < L.length) :
    Calls Tryz.prog 50 #[.slice (some ⟨g, 0, none⟩) L.length cap, .int .i64 i, .int .i64 ((i : Int) + 1)] w fun e w' => e = .returned (.slice (some ⟨g, 0, none⟩) (L.length - 1) cap) ∧
      w'.ownsRow base 3 1 (.slice (some ⟨g, 0, none⟩) (L.length - 1) cap) (L.length - 1) ((L.eraseIdx i).map (Value.int .i64)) ∧ w.grownBy w' (some g) := by
  rcases hown.2 with ⟨h0, _⟩ | ⟨g', cap', cur, hv, hg, hb, hn, hcap, hsz, ht⟩
  · cases h0
  cases hv
  rw [Nat.mul_one] at ht
  have hH := holds_of_blockI hb ht
  have hcs : cap ≤ 9223372036854775807 := by unfold maxLen at hcap; omega
  refine (delete_arr50 g 0 cap i (i + 1) L.toArray w hH (by simpa using hn) hcs (by omega) (by simp; omega)).mono ?_
  rintro e w' ⟨rfl, q, rfl⟩
  have e1 : L.toArray.size - (i + 1 - i) = L.length - 1 := by simp
  have e2 : (L.toArray.toList.take i ++ L.toArray.toList.drop (i + 1) ++ List.replicate (i + 1 - i) 0) = L.eraseIdx i ++ [0] := by
    rw [List.eraseIdx_eq_take_drop_succ, show i + 1 - i = 1 by omega]; rfl
  rw [e1, e2]
  have hlen : (L.eraseIdx i ++ [(0 : Int)]).length = L.length := by rw [List.length_append, List.length_eraseIdx_of_lt hi]; simp; omega
  have hle : (L.eraseIdx i).length = L.length - 1 := List.length_eraseIdx_of_lt hi
  have hbl : (putRow (Value.int .i64) (Sort.ahead w q) g 0 (L.eraseIdx i ++ [(0 : Int)]).toArray).heap[g]? = some (.cells (putCells (Value.int .i64) 0 (L.eraseIdx i ++ [(0 : Int)]).toArray cur) 3 (0, 0)) := by
    simp [putRow, mapBlock, Sort.ahead, Array.getElem?_modify, hb, onCells]
  have htk := take_putCellsI cur (L.eraseIdx i ++ [(0 : Int)]) (by rw [hlen]; omega)
  refine ⟨rfl, ⟨by rw [List.length_map, hle, Nat.mul_one], .inr ⟨g, cap, _, rfl, hg, hbl, by omega, hcap, by simp [putCells, hsz], ?_⟩⟩, rfl, rfl, rfl, by simp [putRow, mapBlock, Sort.ahead], fun k hk hne => ?_⟩
  · have := congrArg (List.take (L.length - 1)) htk
    rw [List.take_take, Nat.min_eq_left (by rw [hlen]; omega)] at this
    rw [Nat.mul_one, this, ← List.map_take]
    congr 1
    rw [← hle, List.take_left]
  · have : g ≠ k := fun e => hne (by rw [e])
    simp [putRow, mapBlock, Sort.ahead, Array.getElem?_modify, this]

end Go.Proofs.YtkmpdcckgibkhaaGreat
/-
  Walks: the order with a table.
-/
namespace Go.Proofs.YtkmpdcckgibkhaaGreat
open Go.RowKit

/-- The numbers that a table picks, one after another, out of those that are left. -/
def pickGo : List Int → List Nat → List Int
  | _, [] => []
  | left, d :: r => left.getD d 0 :: pickGo (left.eraseIdx d) r
def upL (n : Nat) : List Int := (List.range n).map fun i => ((i : Nat) : Int) + 1
def orderOf (D : List Nat) : List Int := pickGo (upL D.length) D
/-- A table of a list with so many numbers left. -/
def okGo : Nat → List Nat → Bool
  | _, [] => true
  | m, d :: r => decide (d < m) && okGo (m - 1) r
def digT (D : List Nat) (k : Nat) (i : Nat) : Int := if i < k then ((D.getD i 0 : Nat) : Int) else 0
theorem pick_len : ∀ (D : List Nat) (l : List Int), (pickGo l D).length = D.length := by
  intro D
  induction D with
  | nil => intro l; rfl
  | cons d r ih => intro l; simp [pickGo, ih]
theorem upL_len (n : Nat) : (upL n).length = n := by simp [upL]
theorem upL_succ (n : Nat) : upL (n + 1) = upL n ++ [(n : Int) + 1] := by simp [upL, List.range_succ]

theorem eq12 (a0 a1 a2 a3 a4 a5 a6 a7 a8 a9 a10 a11 : Int) (w : World) : (Op.equalIn 10000 93 (.agg #[.int .i64 a0, .int .i64 a1, .int .i64 a2, .int .i64 a3, .int .i64 a4, .int .i64 a5, .int .i64 a6, .int .i64 a7, .int .i64 a8, .int .i64 a9, .int .i64 a10, .int .i64 a11])
    (.agg #[.int .i64 a0, .int .i64 a1, .int .i64 a2, .int .i64 a3, .int .i64 a4, .int .i64 a5, .int .i64 a6, .int .i64 a7, .int .i64 a8, .int .i64 a9, .int .i64 a10, .int .i64 a11])).run Tryz.prog w = .ok true w := by
  have hu : ∀ w, (underlying 93).run Tryz.prog w = .ok (.array 12 3) w := fun w => Tryz.runUnderlying93 w
  have hs : ∀ w, (sizeOf 3).run Tryz.prog w = .ok 1 w := fun w => Tryz.sizeOf3 w
  have hg : ∀ w, (isAgg 3).run Tryz.prog w = .ok false w := fun w => Tryz.isAgg3 w
  rw [show (10000 : Nat) = 9999 + 1 from rfl, Op.equalIn]
  simp [hu, Sem.run_bind, go_sem, hs, List.range'_succ, hg, eqi]

/-- What the loop of Order keeps: what is left, what is out, the table that is wanted. -/
structure OrdI (w : World) (b : Nat) (D : List Nat) (k : Nat) (v4 v5 : Value) (W : World) : Prop where
  below : Below w.heap.size w W
  base : w.heap.size ≤ b
  left : ∃ L : List Int, W.ownsRow w.heap.size 3 1 v4 L.length (L.map (Value.int .i64)) ∧ L.length = D.length - k ∧ ∃ O : List Int, W.ownsRow w.heap.size 3 1 v5 k (O.map (Value.int .i64)) ∧ O.length = k ∧ O ++ pickGo L (D.drop k) = orderOf D
  want : Blk W b (rowA (digT D k) 12) 93
  ne45 : v4.ownBlock = none ∨ v4.ownBlock ≠ v5.ownBlock
  ne4 : v4.ownBlock ≠ some b
  ne5 : v5.ownBlock ≠ some b

theorem grownBy_set (W : World) (b k : Nat) (v : Value) : W.grownBy (W.setCell ⟨b, k, none⟩ v) (some b) :=
  ⟨rfl, rfl, rfl, by simp, fun j _ hne => Below.heap_setCell W ⟨b, k, none⟩ v j (fun e => hne (by rw [e]))⟩
theorem own_some {w : World} {base : Nat} {v : Value} {L : List Int} (h : w.ownsRow base 3 1 v L.length (L.map (Value.int .i64))) (h0 : 0 < L.length) : ∃ g c, v = .slice (some ⟨g, 0, none⟩) L.length c ∧ base ≤ g ∧ g < w.heap.size ∧ L.length ≤ c := by
  rcases h.2 with ⟨-, h1⟩ | ⟨g, c, cur, hv, hg, hb, hn, -, -, -⟩
  · omega
  · exact ⟨g, c, hv, hg, lt_of_block hb, hn⟩
theorem own_cell {w : World} {base g c : Nat} {L : List Int} (h : w.ownsRow base 3 1 (.slice (some ⟨g, 0, none⟩) L.length c) L.length (L.map (Value.int .i64))) (i : Nat) (x : Int) (hx : L[i]? = some x) : w.cell? ⟨g, i, none⟩ = some (.int .i64 x) := by
  have h0 : 0 < L.length := by have := (List.getElem?_eq_some_iff.1 hx).1; omega
  obtain ⟨a, c', hv, hi⟩ := ownsRow_ints h
  obtain ⟨g', o', rfl, -, hc⟩ := hi.at h0
  simp only [Value.slice.injEq, Option.some.injEq, Addr.mk.injEq] at hv
  obtain ⟨⟨rfl, rfl, -⟩, -, -⟩ := hv
  have := hc i x hx
  rwa [Nat.zero_add] at this
theorem okGo_step (D : List Nat) (m k : Nat) (d : Nat) (hk : D[k]? = some d) (h : okGo m (D.drop k) = true) : d < m ∧ okGo (m - 1) (D.drop (k + 1)) = true := by
  have hl : k < D.length := (List.getElem?_eq_some_iff.1 hk).1
  rw [List.drop_eq_getElem_cons hl] at h
  rw [List.getElem?_eq_getElem hl] at hk
  cases hk
  simpa [okGo] using h
theorem pick_step (D : List Nat) (k d : Nat) (L : List Int) (hk : D[k]? = some d) : pickGo L (D.drop k) = L.getD d 0 :: pickGo (L.eraseIdx d) (D.drop (k + 1)) := by
  have hl : k < D.length := (List.getElem?_eq_some_iff.1 hk).1
  rw [List.drop_eq_getElem_cons hl]
  rw [List.getElem?_eq_getElem hl] at hk
  cases hk
  rfl

theorem OrdI.step {w w2 w3 : World} {b k d g4 c4 : Nat} {D : List Nat} {L O : List Int} {y : Int} {v5 : Value} (hbase : w.heap.size ≤ b) (hg4 : w.heap.size ≤ g4)
    (hown5 : w2.ownsRow w.heap.size 3 1 v5 (k + 1) (O.map (Value.int .i64) ++ [.int .i64 y])) (w2' : Blk w2 b (rowA (digT D (k + 1)) 12) 93) (hb2 : Below w.heap.size w w2) (hn5 : v5.ownBlock ≠ some g4) (hn5b : v5.ownBlock ≠ some b) (hn4 : b ≠ g4)
    (hown3 : w3.ownsRow w.heap.size 3 1 (.slice (some ⟨g4, 0, none⟩) (L.length - 1) c4) (L.length - 1) ((L.eraseIdx d).map (Value.int .i64))) (hg3 : w2.grownBy w3 (some g4)) (hd : D[k]? = some d) (hy : L[d]? = some y)
    (hLl : L.length = D.length - k) (hOl : O.length = k) (hR : O ++ pickGo L (D.drop k) = orderOf D) (hdL : d < L.length) : OrdI w b D (k + 1) (.slice (some ⟨g4, 0, none⟩) (L.length - 1) c4) v5 w3 := by
  have hle : (L.eraseIdx d).length = L.length - 1 := List.length_eraseIdx_of_lt hdL
  refine ⟨hb2.grown hg3 hb2.size (by rintro k ⟨⟩; exact hg4), hbase, ⟨L.eraseIdx d, by rw [hle]; exact hown3, by rw [hle, hLl]; omega, O ++ [y], ?_, by rw [List.length_append, hOl]; rfl, ?_⟩, ?_, .inr (fun e => hn5 e.symm), fun e => hn4 (by cases e; rfl), hn5b⟩
  · rw [List.map_append]; exact hown5.kept hg3 (.inr hn5)
  · rw [← hR, pick_step D k d L hd, List.append_assoc]; congr 1; simp [List.getD, hy]
  · exact (hg3.block b w2'.lt (fun e => hn4 (by cases e; rfl))).trans w2'

set_option maxRecDepth 100000 in
set_option maxHeartbeats 4000000 in
theorem order_ok (a : Option Addr) (c : Nat) (D : List Nat) (w : World) (hi : Ints w a (D.map fun d => ((d : Nat) : Int))) (hl : D.length ≤ 12) (hok : okGo D.length D = true) (hT : tabV (orderOf D) = rowA (digT D D.length) 12) :
    Calls Tryz.prog 24 #[.slice a D.length c] w fun e w' => ∃ a' c', e = .returned (.tuple #[.slice a' D.length c', .int .i64 0]) ∧ Ints w' a' (orderOf D) ∧ Below w.heap.size w w' := by
  have HI := hid hi
  have HOK := hid hok
  have HT := hid hT
  clear hi hok hT
  have hlI : (D.length : Int) ≤ 12 := by omega
  have hz : (#[.int .i64 0, .int .i64 0, .int .i64 0, .int .i64 0, .int .i64 0, .int .i64 0, .int .i64 0, .int .i64 0, .int .i64 0, .int .i64 0, .int .i64 0, .int .i64 0] : Array Value) = rowA (digT D 0) 12 := by
    rw [rowA_congr (f := digT D 0) (g := fun _ => 0) fun i _ => by simp [digT]]; rfl
  go_enter Tryz.func24, Tryz.ntmps24
  go_wp2_with fail
  go_loopw [4, 15] (fun v jv W => ∃ j : Nat, j ≤ D.length ∧ jv = .int .i64 j ∧ Below w.heap.size w W ∧ W.ownsRow w.heap.size 3 1 v j ((upL j).map (Value.int .i64))) (fun _ jv _ => D.length - (intOf jv).toNat)
  case atStart => exact ⟨0, by omega, rfl, Below.refl _ _, ⟨rfl, .inl ⟨rfl, rfl⟩⟩⟩
  case round =>
    obtain ⟨j, hj, rfl, hB, hown⟩ := hrel
    by_cases hlt : j < D.length
    · have hw1 : IntKind.i64.wrap ((j : Int) + 1) = (j : Int) + 1 := IntWalk.i64_in _ (by omega)
      have hw2 : wrap64 ((j : Int) + 1) = (j : Int) + 1 := by unfold wrap64; omega
      go_wp2_with (at_builtin; go_must (refine wpList_app _ rfl (.tmp 18) (.tmp 21) 24 rfl w.heap.size 3 (.int .i64 0) 8 Tryz.underlying24 infoS3 rfl _ j _ rfl (hown.alloc _) (some ⟨wr.heap.size, 0, none⟩) 1 1 [.int .i64 _] rfl rfl (vals_new _ _ _ _ rfl) (fun h => by cases h) (by simp [Value.oneCell']) (by omega) (by omega) (by have := hB.size; simp; omega) ?_))
      intro v' w1 hown' hgrow _
      have hB' := below_app (hB.alloc hB.size _) hgrow (hown.alloc _) (by have := hB.size; simp; omega) (Nat.le_refl _)
      have hown2 : w1.ownsRow w.heap.size 3 1 v' (j + 1) ((upL (j + 1)).map (Value.int .i64)) := by
        rw [upL_succ, List.map_append]
        exact hown'
      clear hown' hgrow hown hB
      go_wp2_with fail
      exact ⟨⟨j + 1, by omega, by go_num, hB', hown2⟩, by simp [intOf]; omega⟩
    · have hje : j = D.length := by omega
      subst hje
      have HB := hid (And.intro (hB.alloc hB.size (.cells (rowA (digT D 0) 12) 93)) (And.intro (hown.alloc (.cells (rowA (digT D 0) 12) 93)) (And.intro (Blk.new wr (rowA (digT D 0) 12) 93) (And.intro hB.size (fun g h => (hown.lt g h).2 : ∀ g, u4.ownBlock = some g → g < wr.heap.size)))))
      clear hB hown
      go_wp2_with fail
      obtain ⟨b, hb⟩ : ∃ b, b = wr.heap.size := ⟨_, rfl⟩
      rw [← hb] at HB ⊢
      generalize wr.alloc (.cells (rowA (digT D 0) 12) 93) = W0 at *
      clear hb
      go_loopw [4, 5, 26] (fun v4 v5 kv W => ∃ k : Nat, k ≤ D.length ∧ kv = .int .i64 k ∧ OrdI w b D k v4 v5 W ∧ Hid (okGo (D.length - k) (D.drop k) = true)) (fun _ _ kv _ => D.length - (intOf kv).toNat)
      case atStart =>
        refine ⟨0, by omega, rfl, ⟨HB.out.1, HB.out.2.2.2.1, ⟨upL D.length, by rw [upL_len]; exact HB.out.2.1, by rw [upL_len]; rfl, [], ⟨rfl, .inl ⟨rfl, rfl⟩⟩, rfl, rfl⟩, HB.out.2.2.1, ?_, fun e => by have := HB.out.2.2.2.2 _ e; omega, fun e => by cases e⟩, HOK.out⟩
        cases h : u4.ownBlock with
        | none => exact .inl rfl
        | some x => exact .inr (by simp [Value.ownBlock])
      case round =>
        obtain ⟨k, hk, rfl, hO, HG⟩ := hrel
        obtain ⟨L, hL, hLl, O, hOo, hOl, hR⟩ := hO.left
        by_cases hlt : k < D.length
        · obtain ⟨d, hd, -⟩ := list_drop_cons D k hlt
          obtain ⟨hdm, hok2⟩ := okGo_step D _ k d hd HG.out
          obtain ⟨g, o, rfl, hg, hcell⟩ := (HI.out.below hO.below (Nat.le_refl _)).at (by simp; omega)
          have q1 := hcell k ((d : Nat) : Int) (by simp [hd])
          obtain ⟨g4, c4, rfl, hg4, hg4l, hc4⟩ := own_some hL (by omega)
          have hdL : d < L.length := by omega
          have HM := hid (show D.length - (k + 1) < D.length - k by omega)
          have HG2 := hid (show okGo (D.length - (k + 1)) (D.drop (k + 1)) = true by have := hok2; rwa [show D.length - k - 1 = D.length - (k + 1) by omega] at this)
          have HN4 := hid (show b ≠ g4 from fun e => hO.ne4 (by rw [e]; rfl))
          have HR := hid hR
          have HPK := hid (pick_step D k d L hd)
          have b1 := hO.want.rowAt k (by omega)
          have b2 := hO.want.free k
          have hs1 := grownBy_set wr b k (.int .i64 ((d : Nat) : Int))
          have hL1 := hL.kept hs1 (.inr hO.ne4)
          have hO1 := hOo.kept hs1 (.inr hO.ne5)
          have w1 := hO.want.rowPut (g := digT D (k + 1)) k ((d : Nat) : Int) (fun i _ => by
            unfold digT
            by_cases h1 : i = k
            · subst h1; rw [if_pos rfl, if_pos (by omega)]; simp [List.getD, hd]
            · rw [if_neg h1]
              by_cases h2 : i < k
              · rw [if_pos h2, if_pos (by omega)]
              · rw [if_neg h2, if_neg (by omega)])
          have hb1 : Below w.heap.size w (wr.setCell ⟨b, k, none⟩ (.int .i64 ((d : Nat) : Int))) := hO.below.setCell hO.base _
          obtain ⟨y, hy⟩ : ∃ y, L[d]? = some y := ⟨L[d], List.getElem?_eq_getElem hdL⟩
          have q4 := own_cell hL1 d y hy
          have HY := hid hy
          have i1 : (0 : Int) ≤ (k : Int) := by omega
          have i2 : (k : Int) < 12 := by omega
          have i3 : (d : Int) < (L.length : Int) := by omega
          have i4 : (k : Int) < (D.length : Int) := by omega
          have HO := hid hO
          have HL1 := hid hL1
          have HO1 := hid (And.intro hO1 (And.intro w1 hb1))
          have HD := hid (And.intro hd (And.intro hok2 hLl))
          have HQ := hid (And.intro hL (And.intro hOo hOl))
          clear hO hL1 hO1 w1 hb1 hd hok2 hLl hL hOo hOl hy hs1 hcell hR
          go_wp2_with fail
          refine (within22_yes _ _ _ _ (by omega) (by unfold wrap64; have := HD.out.2.2; omega)).mono ?_
          rintro e w1 ⟨rfl, rfl⟩
          have hvn : Vals ((wr.setCell ⟨b, k, none⟩ (.int .i64 ((d : Nat) : Int))).alloc (.cells #[.int .i64 y] 3)) (some ⟨wr.heap.size, 0, none⟩) [.int .i64 y] := by simpa using vals_new (wr.setCell ⟨b, k, none⟩ (.int .i64 ((d : Nat) : Int))) #[.int .i64 y] 3 _ rfl
          have HVN := hid hvn
          clear hvn
          go_wp2_with (first | (at_builtin; go_must (refine wpList_app2 _ rfl (.tmp 40) (.tmp 45) 24 rfl w.heap.size 3 (.int .i64 0) 8 Tryz.underlying24 infoS3 rfl _ k _ rfl (HO1.out.1.alloc _) (some ⟨wr.heap.size, 0, none⟩) 1 1 [.int .i64 y] rfl rfl HVN.out (fun h => by cases h) (by simp [Value.oneCell']) (by omega) (by omega) (by have := HO1.out.2.2.size; simp at this ⊢; omega) ?_)))
          intro v5 w2 hown5 hgrow5 hloc5
          have hO := HO.out
          have hszA : ((wr.setCell ⟨b, k, none⟩ (.int .i64 ((d : Nat) : Int))).alloc (.cells #[.int .i64 y] 3)).heap.size = wr.heap.size + 1 := by simp
          have hbw := hO.want.lt
          have hb2 := below_app (HO1.out.2.2.alloc HO1.out.2.2.size (.cells #[.int .i64 y] 3)) hgrow5 (HO1.out.1.alloc _) (by have := HO1.out.2.2.size; simp at this ⊢; omega) (Nat.le_refl _)
          have hL2 := (HL1.out.alloc (.cells #[.int .i64 y] 3)).kept hgrow5 hO.ne45
          have w2' : Blk w2 b (rowA (digT D (k + 1)) 12) 93 := (hgrow5.block b (by omega) (fun e => hO.ne5 e.symm)).trans (HO1.out.2.1.alloc _)
          have hn5 : v5.ownBlock ≠ some g4 := by
            rcases hloc5 with h | h
            · rw [h]; rcases hO.ne45 with h' | h'
              · cases h'
              · exact fun e => h' e.symm
            · rw [h]
              intro e; simp at e; omega
          have hn5b : v5.ownBlock ≠ some b := by
            rcases hloc5 with h | h
            · rw [h]; exact hO.ne5
            · rw [h]
              intro e; simp at e; omega
          have hn4 := hO.ne4
          have C := hid (delete50 w.heap.size g4 c4 d L w2 hL2 hdL)
          have H2 := hid (And.intro hown5 (And.intro w2' (And.intro hb2 (And.intro hn5 (And.intro hn5b hn4)))))
          have hw1 : IntKind.i64.wrap ((d : Int) + 1) = (d : Int) + 1 := IntWalk.i64_in _ (by omega)
          have hw2 : wrap64 ((d : Int) + 1) = (d : Int) + 1 := by unfold wrap64; omega
          clear hO hszA hb2 hL2 w2' hn5 hn5b hn4 hloc5 hgrow5 hown5
          go_wp2_with fail
          refine C.out.mono ?_
          rintro e w3 ⟨rfl, hown3, hg3⟩
          obtain ⟨hown5, w2', hb2, hn5, hn5b, hn4⟩ := H2.out
          have HF := hid (OrdI.step HO.out.base hg4 hown5 w2' hb2 hn5 hn5b HN4.out hown3 hg3 HD.out.1 HY.out HD.out.2.2 HQ.out.2.2 HR.out hdL)
          clear hown3 hg3 hown5 w2' hb2 hn5 hn5b hn4 C H2 HO HL1 HO1 HD HQ HVN HR HPK HY
          go_wp2_with fail
          exact ⟨⟨k + 1, hlt, by go_num, HF.out, HG2.out⟩, by simpa [intOf] using HM.out⟩
        · have hke : k = D.length := by omega
          subst hke
          have hRe : O = orderOf D := by rw [← hR, List.drop_eq_nil_of_le (Nat.le_refl _)]; simp [pickGo]
          obtain ⟨a5, c5, rfl, hi5⟩ := ownsRow_ints (l := O) (hOl ▸ hOo)
          have hf5 := (ownsRow_facts (hOl ▸ hOo)).2.1
          rw [hOl] at hOo
          have hB := hO.below
          have T := table_any a5 c5 O wr.drew hi5 (by omega) (by omega)
          have hwt := hO.want
          have hTV : tabV O = rowA (digT D D.length) 12 := by rw [hRe]; exact HT.out
          rw [hTV] at T
          have hF := hid (And.intro hRe (And.intro hi5 hOl))
          clear hR hO hL hOo hTV HT HI HOK HG HB hi5 hz
          generalize digT D D.length = f at *
          rw [show rowA f 12 = #[.int .i64 (f 0), .int .i64 (f 1), .int .i64 (f 2), .int .i64 (f 3), .int .i64 (f 4), .int .i64 (f 5), .int .i64 (f 6), .int .i64 (f 7), .int .i64 (f 8), .int .i64 (f 9), .int .i64 (f 10), .int .i64 (f 11)] from rfl] at T
          have hlen : (O.length : Int) = (D.length : Int) := by rw [hOl]
          rw [hOl] at T
          obtain ⟨r0, r1, r2, r3, r4, r5, r6, r7, r8, r9, r10, r11⟩ := hwt.cells12
          have TW := hid (fun (w5 : World) (hb5 : Below wr.drew.heap.size wr.drew w5) => (Blk.below (w := wr.drew) hwt hb5 hwt.lt).cells12)
          have heq := eq12 (f 0) (f 1) (f 2) (f 3) (f 4) (f 5) (f 6) (f 7) (f 8) (f 9) (f 10) (f 11)
          have T2 := hid T
          have HBW := hid hB
          have HI5 := hid (fun (w5 : World) (hb5 : Below wr.drew.heap.size wr.drew w5) => (Ints.below (w := wr.drew) hF.out.2.1 hb5 (Nat.le_refl _) : Ints w5 a5 O))
          clear hwt T hlen
          generalize f 0 = x0 at *
          generalize f 1 = x1 at *
          generalize f 2 = x2 at *
          generalize f 3 = x3 at *
          generalize f 4 = x4 at *
          generalize f 5 = x5 at *
          generalize f 6 = x6 at *
          generalize f 7 = x7 at *
          generalize f 8 = x8 at *
          generalize f 9 = x9 at *
          generalize f 10 = x10 at *
          generalize f 11 = x11 at *
          rw [hOl]
          go_wp2_with fail
          go_region_with (go_at_call 51; refine T2.out.mono ?_; rintro e w5 ⟨rfl, hb5⟩; obtain ⟨r0, r1, r2, r3, r4, r5, r6, r7, r8, r9, r10, r11⟩ := TW.out _ hb5; clear TW; have HB5 := hid hb5; clear hb5)
          all_goals (go_wp2_with fail; go_ret2; exact ⟨a5, c5, rfl, hF.out.1 ▸ HI5.out _ HB5.out, HBW.out.drew.trans (HB5.out.mono HBW.out.size)⟩)

end Go.Proofs.YtkmpdcckgibkhaaGreat
/-
  Walks: the order at a position.
-/
namespace Go.Proofs.YtkmpdcckgibkhaaGreat
open Go.RowKit

def digL : Nat → Nat → List Nat
  | 0, _ => []
  | m + 1, k => k / facN m :: digL m (k % facN m)
def ordL (n k : Nat) : List Int := orderOf (digL n k)
theorem digL_len : ∀ n k, (digL n k).length = n := by
  intro n
  induction n with
  | zero => intro k; rfl
  | succ m ih => intro k; simp [digL, ih]
theorem ordL_len (n k : Nat) : (ordL n k).length = n := by unfold ordL orderOf; rw [pick_len, digL_len]
theorem dig_small : ∀ n, n < 6 → ∀ k, k < facN n → okGo n (digL n k) = true ∧ ∀ i, i < 12 → ((tabN (ordL n k) (ordL n k).length i : Nat) : Int) = digT (digL n k) n i := by decide +kernel
theorem facN_pos : ∀ n, 0 < facN n := by
  intro n
  induction n with
  | zero => decide
  | succ m ih => exact Nat.mul_pos ih (by omega)

theorem small_wrap (Q : Nat) (h : Q ≤ 479001600) : wrap64 (Q : Int) = (Q : Int) ∧ IntKind.i64.wrap (Q : Int) = (Q : Int) := ⟨by unfold wrap64; omega, by rw [IntKind.wrap_i64]; omega⟩
theorem less_wrap (m : Nat) (h : m ≤ 479001600) : wrap64 ((m : Int) - 1) = (m : Int) - 1 ∧ IntKind.i64.wrap ((m : Int) - 1) = (m : Int) - 1 := ⟨by unfold wrap64; omega, by rw [IntKind.wrap_i64]; omega⟩

set_option maxHeartbeats 4000000 in
theorem item_ok (n k : Nat) (hn : n < 6) (hk : k < facN n) (w : World) :
    Calls Tryz.prog 8 #[.int .i64 n, .int .i64 k] w fun e w' => ∃ a c, e = .returned (.tuple #[.slice a n c, .int .i64 0]) ∧ Ints w' a (ordL n k) ∧ Below w.heap.size w w' := by
  have hf := facN_le n (by omega)
  have hw1 : wrap64 ((facN n : Int) - 1) = (facN n : Int) - 1 := by unfold wrap64; omega
  have hw2 : wrap64 ((n : Int) - 1) = (n : Int) - 1 := by unfold wrap64; omega
  have F := fun w => hid (factorial_any n (by omega) w)
  go_enter Tryz.func8, Tryz.ntmps8
  go_wp2_with fail
  refine (within22_yes _ _ _ _ (by omega) (by omega)).mono ?_
  rintro e w1 ⟨rfl, rfl⟩
  go_wp2_with fail
  refine (F _).out.mono ?_
  rintro e w1 ⟨rfl, rfl⟩
  go_wp2_with fail
  refine (within22_yes _ _ _ _ (by omega) (by omega)).mono ?_
  rintro e w1 ⟨rfl, rfl⟩
  go_wp2_with fail
  go_loopw [1, 6, 7] (fun kv tv mv W => ∃ (j k' : Nat) (T : List Nat), j ≤ n ∧ kv = .int .i64 k' ∧ mv = .int .i64 ((j : Int) - 1) ∧ k' < facN j ∧ Below w.heap.size w W ∧ W.ownsRow w.heap.size 3 1 tv (n - j) ((T.map fun d => ((d : Nat) : Int)).map (Value.int .i64)) ∧ T.length = n - j ∧ Hid (T ++ digL j k' = digL n k)) (fun _ _ mv _ => (intOf mv + 1).toNat)
  case atStart => exact ⟨n, k, [], Nat.le_refl _, rfl, rfl, hk, Below.refl _ _, by rw [Nat.sub_self]; exact ⟨rfl, .inl ⟨rfl, rfl⟩⟩, by simp, rfl⟩
  case round =>
    obtain ⟨j, k', T, hj, rfl, rfl, hk', hB, hown, hTl, HT⟩ := hrel
    by_cases hlt : 0 < j
    · obtain ⟨m, rfl⟩ : ∃ m, j = m + 1 := ⟨j - 1, by omega⟩
      have hjm : ((m + 1 : Nat) : Int) - 1 = (m : Int) := by omega
      rw [hjm]
      have fm := facN_le m (by omega)
      have fp := facN_pos m
      have FM := fun w => hid (factorial_any m (by omega) w)
      have hq : Int.tdiv (k' : Int) (facN m : Int) = ((k' / facN m : Nat) : Int) := by rw [Int.tdiv_eq_ediv_of_nonneg (by omega)]; rfl
      have hr : Int.tmod (k' : Int) (facN m : Int) = ((k' % facN m : Nat) : Int) := by rw [Int.tmod_eq_emod_of_nonneg (by omega)]; rfl
      have hz : ¬ (facN m : Int) = 0 := by omega
      have hk2 : k' % facN m < facN m := Nat.mod_lt _ fp
      have fm1 := facN_le (m + 1) (by omega)
      have hqb : k' / facN m ≤ k' := Nat.div_le_self _ _
      have HT2 := hid (show (T ++ [k' / facN m]) ++ digL m (k' % facN m) = digL n k by rw [List.append_assoc]; exact HT.out)
      clear hjm HT
      generalize hQ : k' / facN m = Q at *
      generalize hR : k' % facN m = R at *
      clear hQ hR hk hf hw1 hw2 F
      obtain ⟨hkb, hQb, hRb, hYb⟩ : k' ≤ 479001600 ∧ Q ≤ 479001600 ∧ R ≤ 479001600 ∧ facN m ≤ 479001600 := ⟨by omega, by omega, by omega, fm⟩
      have HK2 := hid hk2
      clear fm1 fm hk' hk2 hqb
      generalize hY : facN m = Y at *
      replace hY := hid hY
      obtain ⟨hqw, hqw2⟩ := small_wrap Q hQb
      obtain ⟨hrw, hrw2⟩ := small_wrap R hRb
      obtain ⟨hw3, hw4⟩ := less_wrap m (by omega)
      go_wp2_with fail
      refine (FM _).out.mono ?_
      rintro e w1 ⟨rfl, rfl⟩
      go_wp2_with (at_builtin; go_must (refine wpList_app _ rfl (.tmp 25) (.tmp 30) 24 rfl w.heap.size 3 (.int .i64 0) 8 Tryz.underlying24 infoS3 rfl _ (n - (m + 1)) _ rfl (hown.alloc _) (some ⟨wr.heap.size, 0, none⟩) 1 1 [.int .i64 _] rfl rfl (vals_new _ _ _ _ rfl) (fun h => by cases h) (by simp [Value.oneCell']) (by omega) (by omega) (by have := hB.size; simp; omega) ?_))
      intro v' w1 hown' hgrow _
      have hB' := below_app (hB.alloc hB.size _) hgrow (hown.alloc _) (by have := hB.size; simp; omega) (Nat.le_refl _)
      have hown2 : w1.ownsRow w.heap.size 3 1 v' (n - m) (((T ++ [Q]).map fun d => ((d : Nat) : Int)).map (Value.int .i64)) := by
        rw [List.map_append, List.map_append, show n - m = n - (m + 1) + 1 by omega]
        simpa using hown'
      clear hown' hgrow hown hB
      go_wp2_with fail
      refine (FM _).out.mono ?_
      rintro e w2 ⟨rfl, rfl⟩
      go_wp2_with fail
      exact ⟨⟨m, R, T ++ [Q], by omega, rfl, rfl, by rw [hY.out]; exact HK2.out, hB', hown2, by rw [List.length_append, hTl, List.length_singleton]; omega, HT2⟩, by simp [intOf]⟩
    · have hj0 : j = 0 := by omega
      subst hj0
      have hTT : T = digL n k := by have := HT.out; simpa [digL] using this
      subst hTT
      obtain ⟨a, c, rfl, hi⟩ := ownsRow_ints (l := (digL n k).map fun d => ((d : Nat) : Int)) hown
      have HD := dig_small n hn k hk
      have hOK := order_ok a c (digL n k) wr hi (by rw [digL_len]; omega) (by rw [digL_len]; exact HD.1) (rowA_congr fun i hi => by rw [digL_len]; exact HD.2 i hi)
      rw [digL_len] at hOK
      rw [List.length_map, digL_len]
      have HO := hid hOK
      clear hOK hi hown HT
      go_wp2_with fail
      refine HO.out.mono ?_
      rintro e w1 ⟨a2, c2, rfl, hi2, hb2⟩
      have hF := hid (And.intro hi2 (hB.trans (hb2.mono hB.size)))
      clear hi2 hb2 hB
      go_wp2_with fail
      go_ret2
      exact ⟨a2, c2, rfl, hF.out⟩

end Go.Proofs.YtkmpdcckgibkhaaGreat
/-
  How many choices rows have: no program.
-/
namespace Go.Proofs.YtkmpdcckgibkhaaGreat
open Go.RowKit Go.ChangeMaps

/-- The sum over the columns from c on that a row allows and that are not in use. -/
def colS (f : Nat → Nat) (u : Nat) : List Int → Nat → Nat
  | [], _ => 0
  | x :: r, c => (if 0 < x ∧ u.testBit c = false then f (u ||| 2 ^ c) else 0) + colS f u r (c + 1)
/-- How many choices the rows have, with the columns u in use. -/
def cntC : List (List Int) → Nat → Nat
  | [], _ => 1
  | r :: rest, u => colS (cntC rest) u r 0
theorem colS_le (f : Nat → Nat) (B : Nat) (hf : ∀ u, f u ≤ B) (u : Nat) : ∀ (r : List Int) (c : Nat), colS f u r c ≤ r.length * B := by
  intro r
  induction r with
  | nil => intro c; simp [colS]
  | cons x r ih =>
    intro c
    simp only [colS, List.length_cons, Nat.succ_mul]
    have := ih (c + 1)
    have := hf (u ||| 2 ^ c)
    split <;> omega
theorem cntC_le : ∀ (X : List (List Int)) (u : Nat), (∀ r ∈ X, r.length ≤ 5) → cntC X u ≤ 5 ^ X.length := by
  intro X
  induction X with
  | nil => intro u _; simp [cntC]
  | cons r rest ih =>
    intro u h
    have h1 := colS_le (cntC rest) (5 ^ rest.length) (fun u => ih u (fun r hr => h r (List.mem_cons_of_mem _ hr))) u r 0
    have h2 : r.length * 5 ^ rest.length ≤ 5 * 5 ^ rest.length := Nat.mul_le_mul_right _ (h r List.mem_cons_self)
    simp only [cntC, List.length_cons, Nat.pow_succ]
    omega

/-- What the map of known numbers says of the rows from r on. -/
def Kn (X : List (List Int)) (r : Nat) (M : List ((Int × Int) × Value)) : Prop := ∀ (i u : Nat) (v : Value), r ≤ i → get ((i : Int), (u : Int)) M = some v → v = .int .i64 (cntC (X.drop i) u : Nat)
/-- Two maps say the same of the rows before r. -/
def SameB (r : Nat) (M M' : List ((Int × Int) × Value)) : Prop := ∀ (i u : Nat), i < r → get ((i : Int), (u : Int)) M' = get ((i : Int), (u : Int)) M
theorem fnd_put {α : Type} [DecidableEq α] (a b : α) (u : Value) : ∀ (l : List (α × Value)) (i : Nat), (fnd b (put a u l) i).map (·.2) = if b = a then some u else (fnd b l i).map (·.2) := by
  intro l
  induction l with
  | nil =>
    intro i
    simp only [put, fnd]
    by_cases h : b = a <;> simp [h]
  | cons p l ih =>
    intro i
    obtain ⟨c, v⟩ := p
    simp only [put]
    by_cases h : a = c
    · subst h
      rw [if_pos rfl]
      simp only [fnd]
      by_cases h2 : b = a <;> simp [h2]
    · rw [if_neg h]
      simp only [fnd]
      by_cases h2 : b = c
      · subst h2
        rw [if_pos rfl, if_pos rfl, if_neg (fun e => h e.symm)]
      · rw [if_neg h2, if_neg h2, ih]
theorem get_put {α : Type} [DecidableEq α] (a b : α) (u : Value) (l : List (α × Value)) : get b (put a u l) = if b = a then some u else get b l := fnd_put a b u l 0
theorem key_ne (i u j v : Nat) (h : i ≠ j ∨ u ≠ v) : ((i : Int), (u : Int)) ≠ ((j : Int), (v : Int)) := by
  intro e
  simp only [Prod.mk.injEq] at e
  omega

end Go.Proofs.YtkmpdcckgibkhaaGreat
/-
  Walks: how many choices there are.
-/
namespace Go.Proofs.YtkmpdcckgibkhaaGreat
open Go.RowKit Go.ChangeMaps

/-- The boxes of the closure that counts: the table, the map of known numbers, the closure itself. -/
structure CW (W0 : World) (X : List (List Int)) (a : Option Addr) (c t k f m : Nat) (W : World) : Prop where
  below : Below W0.heap.size W0 W
  bt : Blk W t #[.slice a X.length c] 22
  bk : Blk W k #[.map (some m)] 52
  bf : Blk W f #[.func (.func 26) #[] #[.pointer (some ⟨t, 0, none⟩), .pointer (some ⟨k, 0, none⟩), .pointer (some ⟨f, 0, none⟩)]] 23
  ge : W0.heap.size ≤ m
  tm : t ≠ m
  km : k ≠ m
  fm : f ≠ m
theorem CW.grown {W0 W W' : World} {X : List (List Int)} {a : Option Addr} {c t k f m : Nat} (h : CW W0 X a c t k f m W) (hg : W.grownBy W' (some m)) : CW W0 X a c t k f m W' :=
  ⟨h.below.grown hg h.below.size (by rintro j ⟨⟩; exact h.ge), (hg.block t h.bt.lt (fun e => h.tm (by cases e; rfl))).trans h.bt, (hg.block k h.bk.lt (fun e => h.km (by cases e; rfl))).trans h.bk,
    (hg.block f h.bf.lt (fun e => h.fm (by cases e; rfl))).trans h.bf, h.ge, h.tm, h.km, h.fm⟩
theorem grown_alloc (W : World) (o : Obj) (r : Option Nat) : W.grownBy (W.alloc o) r := ⟨rfl, rfl, rfl, by simp, fun k hk _ => Below.heap_alloc W o k hk⟩
theorem grown_block (W : World) (m : Nat) (o : Obj) : W.grownBy (setBlock W m o) (some m) := ⟨rfl, rfl, rfl, by simp [setBlock], fun k _ hne => setBlock_other k (fun e => hne (by rw [e])) o⟩
theorem grown_drewN (W : World) (n : Nat) (r : Option Nat) : W.grownBy (W.drewN n) r := ⟨rfl, rfl, rfl, Nat.le_refl _, fun _ _ _ => rfl⟩

theorem or_pow2 (out x : Nat) (ho : out < 512) (hx : x < 9) : bits .or .i64 (out : Int) (IntKind.i64.wrap ((2 : Int) ^ x)) = ((out ||| 2 ^ x : Nat) : Int) := by
  have := pow_small x hx
  have hw : IntKind.i64.wrap ((2 : Int) ^ x) = ((2 ^ x : Nat) : Int) := by
    rw [← pow_cast]
    generalize 2 ^ x = y at this
    rw [IntKind.wrap_i64]; omega
  rw [hw, or_i64 _ _ (by omega) (by omega)]
theorem wrap_up (r : Nat) (h : r ≤ 1000) : IntKind.i64.wrap ((r : Int) + 1) = (r : Int) + 1 := by rw [IntKind.wrap_i64]; omega
theorem wrap_sum (a b : Nat) (ha : a ≤ 3125) (hb : b ≤ 3125) : wrap64 ((a : Int) + (b : Int)) = ((a + b : Nat) : Int) ∧ IntKind.i64.wrap ((a : Int) + (b : Int)) = ((a + b : Nat) : Int) := ⟨by unfold wrap64; omega, by rw [IntKind.wrap_i64]; omega⟩
/-- What a call of the closure leaves. -/
def CntP (X : List (List Int)) (r u m : Nat) (M : List ((Int × Int) × Value)) (W : World) (e : Ending) (W' : World) : Prop :=
  e = .returned (.int .i64 (cntC (X.drop r) u : Nat)) ∧ ∃ M', MapIs enc2 W' m M' ∧ Kn X r M' ∧ SameB r M M' ∧ W.grownBy W' (some m)

/-- What the loop over a row keeps. -/
def CntI (X : List (List Int)) (row : List Int) (r u m : Nat) (M : List ((Int × Int) × Value)) (kk s : Nat) (Mc : List ((Int × Int) × Value)) : Prop :=
  Kn X (r + 1) Mc ∧ SameB r M Mc ∧ (∀ u' : Nat, u' ≠ u → get ((r : Int), (u' : Int)) Mc = get ((r : Int), (u' : Int)) M) ∧ get ((r : Int), (u : Int)) Mc = some (.int .i64 (s : Nat)) ∧ s + colS (cntC (X.drop (r + 1))) u (row.drop kk) kk = cntC (X.drop r) u ∧ m = m
theorem CntI.start {X : List (List Int)} {row : List Int} {r u m : Nat} {M : List ((Int × Int) × Value)} (hrow : X[r]? = some row) (hK : Kn X r M) : CntI X row r u m M 0 0 (put ((r : Int), (u : Int)) (.int .i64 0) M) := by
  refine ⟨fun i u' v hi hg => ?_, fun i u' hi => ?_, fun u' hu => ?_, ?_, ?_, rfl⟩
  · rw [get_put, if_neg (key_ne _ _ _ _ (.inl (by omega)))] at hg
    exact hK i u' v (by omega) hg
  · rw [get_put, if_neg (key_ne _ _ _ _ (.inl (by omega)))]
  · rw [get_put, if_neg (key_ne _ _ _ _ (.inr hu))]
  · rw [get_put, if_pos rfl]; rfl
  · have hl : r < X.length := (List.getElem?_eq_some_iff.1 hrow).1
    rw [List.drop_eq_getElem_cons hl]
    rw [List.getElem?_eq_getElem hl] at hrow
    cases hrow
    simp [cntC]
theorem CntI.done {X : List (List Int)} {row : List Int} {r u m : Nat} {M Mc : List ((Int × Int) × Value)} {s : Nat} (h : CntI X row r u m M row.length s Mc) (hK : Kn X r M) : s = cntC (X.drop r) u ∧ Kn X r Mc := by
  have hs : s = cntC (X.drop r) u := by have := h.2.2.2.2.1; rw [List.drop_length] at this; simpa [colS] using this
  refine ⟨hs, fun i u' v hi hg => ?_⟩
  by_cases hir : i = r
  · subst hir
    by_cases hu : u' = u
    · subst hu; rw [h.2.2.2.1] at hg; cases hg; rw [hs]
    · rw [h.2.2.1 u' hu] at hg; exact hK i u' v hi hg
  · exact h.1 i u' v (by omega) hg
theorem CntI.skip {X : List (List Int)} {row : List Int} {r u m : Nat} {M Mc : List ((Int × Int) × Value)} {s kk : Nat} {x : Int} (h : CntI X row r u m M kk s Mc) (hx : row[kk]? = some x) (hn : ¬ (0 < x ∧ u.testBit kk = false)) : CntI X row r u m M (kk + 1) s Mc := by
  refine ⟨h.1, h.2.1, h.2.2.1, h.2.2.2.1, ?_, rfl⟩
  have := h.2.2.2.2.1
  have hl : kk < row.length := (List.getElem?_eq_some_iff.1 hx).1
  rw [List.drop_eq_getElem_cons hl] at this
  rw [List.getElem?_eq_getElem hl] at hx
  cases hx
  rw [colS, if_neg hn, Nat.zero_add] at this
  exact this
theorem CntI.take {X : List (List Int)} {row : List Int} {r u m : Nat} {M Mc M' : List ((Int × Int) × Value)} {s kk : Nat} {x : Int} (h : CntI X row r u m M kk s Mc) (hx : row[kk]? = some x) (hn : 0 < x ∧ u.testBit kk = false) (hK : Kn X (r + 1) M') (hS : SameB (r + 1) Mc M') :
    CntI X row r u m M (kk + 1) (s + cntC (X.drop (r + 1)) (u ||| 2 ^ kk)) (put ((r : Int), (u : Int)) (.int .i64 ((s + cntC (X.drop (r + 1)) (u ||| 2 ^ kk) : Nat) : Int)) M') := by
  refine ⟨fun i u' v hi hg => ?_, fun i u' hi => ?_, fun u' hu => ?_, ?_, ?_, rfl⟩
  · rw [get_put, if_neg (key_ne _ _ _ _ (.inl (by omega)))] at hg
    exact hK i u' v hi hg
  · rw [get_put, if_neg (key_ne _ _ _ _ (.inl (by omega))), hS i u' (by omega)]; exact h.2.1 i u' hi
  · rw [get_put, if_neg (key_ne _ _ _ _ (.inr hu)), hS r u' (by omega)]; exact h.2.2.1 u' hu
  · rw [get_put, if_pos rfl]
  · have := h.2.2.2.2.1
    have hl : kk < row.length := (List.getElem?_eq_some_iff.1 hx).1
    rw [List.drop_eq_getElem_cons hl] at this
    rw [List.getElem?_eq_getElem hl] at hx
    cases hx
    rw [colS, if_pos hn] at this
    omega

set_option maxRecDepth 100000 in
set_option maxHeartbeats 8000000 in
theorem count_any (W0 : World) (X : List (List Int)) (a : Option Addr) (c t k f m : Nat) (hX : RowsAt W0 a X) (hS : Square X) (h5 : X.length ≤ 5) : ∀ (d r u : Nat) (M : List ((Int × Int) × Value)) (W : World), r + d = X.length → u < 2 ^ X.length → CW W0 X a c t k f m W → MapIs enc2 W m M → Kn X r M →
    Calls Tryz.prog 26 #[.int .i64 r, .int .i64 u, .pointer (some ⟨t, 0, none⟩), .pointer (some ⟨k, 0, none⟩), .pointer (some ⟨f, 0, none⟩)] W (CntP X r u m M W) := by
  intro d
  induction d with
  | zero =>
    intro r u M W hr hu hC hM hK
    have q0 := hC.bt.cell 0
    have hr2 : r = X.length := by omega
    subst hr2
    have HK := hid (And.intro hM hK)
    clear hC hM hK
    go_enter Tryz.func26, Tryz.ntmps26
    go_wp2_with fail
    go_ret
    exact ⟨by rw [List.drop_length]; rfl, M, HK.out.1, HK.out.2, fun _ _ _ => rfl, World.grownBy.refl _ _⟩
  | succ d ih =>
    intro r u M W hr hu hC hM hK
    have IH := hid ih
    clear ih
    have q0 := hC.bt.cell 0
    have k0 := hC.bk.cell 0
    have hrl : r < X.length := by omega
    have hrl2 : ((r : Int) == (X.length : Int)) = false := by simp; omega
    obtain ⟨row, hrow⟩ : ∃ row, X[r]? = some row := ⟨X[r], List.getElem?_eq_getElem hrl⟩
    obtain ⟨g, o, b, cr, rfl, hg, hcell, hri, hrn, hrc⟩ := hX.at r row hrow
    have C1 := hC.grown (grown_alloc W (.cells #[.int .i64 r, .int .i64 u] 53) (some m))
    have M1 := hM.alloc (.cells #[.int .i64 r, .int .i64 u] 53)
    have KB := Blk.new W #[.int .i64 r, .int .i64 u] 53
    have g1 := grown_alloc W (.cells #[.int .i64 r, .int .i64 u] 53) (some m)
    have hkm : W.heap.size ≠ m := by have := hM.lt; omega
    have lk := M1.look kt53 Tryz.underlying52 (zero3 _) ((r : Int), (u : Int)) true
    have lk2 := M1.look kt53 Tryz.underlying52 (zero3 _) ((r : Int), (u : Int)) false
    have p0 := C1.bt.cell 0
    have p1 := C1.bk.cell 0
    have p2 := KB.cell 0
    have p3 := KB.cell 1
    have HK := hid hK
    have hCh := hid hC
    clear hC hM hK
    cases hgt : get ((r : Int), (u : Int)) M with
    | some v =>
      have hv := HK.out r u v (Nat.le_refl _) hgt
      subst hv
      simp only [hgt, Option.getD_some, Option.isSome_some, if_true, enc2, Bool.false_eq_true, if_false] at lk lk2
      have H1 := hid (And.intro M1 g1)
      clear M1 g1 C1 KB hcell
      go_enter Tryz.func26, Tryz.ntmps26
      go_wp2_with fail
      go_ret
      exact ⟨rfl, M, H1.out.1, HK.out, fun _ _ _ => rfl, H1.out.2⟩
    | none =>
      simp only [hgt, Option.getD_none, Option.isSome_none, if_true, enc2] at lk
      obtain ⟨W2, hup, M2, o2, ho2⟩ := M1.store kt53 Tryz.underlying52 ((r : Int), (u : Int)) (.int .i64 0)
      simp only [enc2] at hup
      have g2 : W.grownBy W2 (some m) := g1.trans (by rw [ho2]; exact grown_block _ _ _)
      have C2 := hCh.out.grown g2
      have KB2 : Blk W2 W.heap.size #[.int .i64 r, .int .i64 u] 53 := by rw [ho2]; exact (setBlock_other _ hkm _).trans KB
      have q5 := (C2.below.cell (p := ⟨g, o + r, none⟩) hg).trans hcell
      have s0 := C2.bt.cell 0
      have s1 := C2.bk.cell 0
      have s2 := KB2.cell 0
      have s3 := KB2.cell 1
      have H2 := hid (And.intro M2 (And.intro C2 (And.intro g2 KB2)))
      clear M1 g1 C1 KB M2 C2 g2 KB2 hcell ho2 lk2
      go_enter Tryz.func26, Tryz.ntmps26
      go_wp2_with fail
      have hrn' := (hS.2 row (List.mem_of_getElem? hrow)).1
      have hrx := (hS.2 row (List.mem_of_getElem? hrow)).2
      have hN5 : row.length ≤ 5 := by omega
      have HRR := hid (And.intro hrow (And.intro hrx hrn'))
      clear hrow hrx hrn' lk hup q5 s0 s1 s2 s3 k0 q0 p0 p1 p2 p3 hgt
      go_loopw [36] (fun kv wr => ∃ (kk s : Nat) (Mc : List ((Int × Int) × Value)), kk ≤ row.length ∧ kv = .int .i64 kk ∧ Hid (MapIs enc2 wr m Mc ∧ CW W0 X (some ⟨g, o, none⟩) c t k f m wr ∧ W.grownBy wr (some m) ∧ Blk wr W.heap.size #[.int .i64 r, .int .i64 u] 53) ∧ Hid (CntI X row r u m M kk s Mc)) (fun kv _ => row.length - (intOf kv).toNat)
      case atStart => exact ⟨0, 0, _, by omega, rfl, ⟨H2.out.1, H2.out.2.1, H2.out.2.2.1, H2.out.2.2.2⟩, CntI.start HRR.out.1 HK.out⟩
      case round =>
        obtain ⟨kk, s, Mc, hkk, rfl, H3, HI⟩ := hrel
        by_cases hlt : kk < row.length
        · obtain ⟨x, hx, -⟩ := list_drop_cons row kk hlt
          obtain ⟨g2, o3, rfl, hg2, hc2⟩ := hri.at (by omega)
          have q2 := (H3.out.2.1.below.cell (p := ⟨g2, o3 + kk, none⟩) hg2).trans (hc2 kk x hx)
          have HX := hid hx
          have hx9 := HRR.out.2.1 x (List.mem_of_getElem? hx)
          have hu512 : u < 512 := by have := Nat.pow_le_pow_right (show 0 < 2 by omega) h5; omega
          have dk : decide ((kk : Int) < (row.length : Int)) = true := by simpa using hlt
          clear hc2 hx
          by_cases hx0 : 0 < x
          · have dy : decide ((0 : Int) < x) = true := by simpa using hx0
            cases hbit : u.testBit kk with
            | true =>
              have fb := free_no u kk hu512 hbit
              have HI2 := hid (HI.out.skip HX.out (by rw [hbit]; simp))
              go_wp2_with fail
              exact ⟨⟨kk + 1, s, Mc, by omega, by go_num, H3, HI2.out⟩, by simp [intOf]; omega⟩
            | false =>
              have fb := free_yes u kk hu512 hbit
              have hop := or_pow u kk hu512 (by omega)
              have hop2 := or_pow2 u kk hu512 (by omega)
              have hkl : kk < X.length := by rw [← HRR.out.2.2]; exact hlt
              have hu2 : u ||| 2 ^ kk < 2 ^ X.length := Nat.or_lt_two_pow hu (Nat.pow_lt_pow_right (by omega) hkl)
              have hcd := H3.out.2.1.grown (grown_drewN wr 1 (some m))
              have C := IH.out (r + 1) (u ||| 2 ^ kk) Mc wr.drew (by omega) hu2 hcd H3.out.1.drew HI.out.1
              have hcb : cntC (X.drop (r + 1)) (u ||| 2 ^ kk) ≤ 3125 := by
                have h1 := cntC_le (X.drop (r + 1)) (u ||| 2 ^ kk) (fun row hr => by have := (hS.2 row (List.mem_of_mem_drop hr)).1; omega)
                have h2 : 5 ^ (X.drop (r + 1)).length ≤ 5 ^ 5 := Nat.pow_le_pow_right (by omega) (by rw [List.length_drop]; omega)
                omega
              have hsb : s ≤ 3125 := by
                have h1 := cntC_le (X.drop r) u (fun row hr => by have := (hS.2 row (List.mem_of_mem_drop hr)).1; omega)
                have h2 : 5 ^ (X.drop r).length ≤ 5 ^ 5 := Nat.pow_le_pow_right (by omega) (by rw [List.length_drop]; omega)
                have h3 := HI.out.2.2.2.2.1
                omega
              obtain ⟨u2, hu2e⟩ : ∃ u2, u2 = u ||| 2 ^ kk := ⟨_, rfl⟩
              rw [← hu2e] at hop hop2 hu2 C hcb
              obtain ⟨n, hn⟩ : ∃ n, n = cntC (X.drop (r + 1)) u2 := ⟨_, rfl⟩
              unfold CntP at C
              rw [← hn] at C hcb
              have hrw : ((r + 1 : Nat) : Int) = (r : Int) + 1 := by omega
              rw [hrw] at C
              have CH := hid C
              have HN := hid (And.intro hn hu2e)
              have f0 := H3.out.2.1.bf.cell 0
              have hrw1 := wrap_up r (by omega)
              clear C hcd hrw hn hu2e hu2
              go_wp2_with fail
              go_region_with (go_at_call 26; refine CH.out.mono ?_; rintro e w5 ⟨rfl, M5, hM5, hK5, hS5, hg5⟩)
              have H5 := hid (show MapIs enc2 w5.drew m M5 ∧ CW W0 X (some ⟨g, o, none⟩) c t k f m w5.drew ∧ W.grownBy w5.drew (some m) ∧ Blk w5.drew W.heap.size #[.int .i64 r, .int .i64 u] 53 from
                ⟨hM5, (H3.out.2.1.grown (grown_drewN wr 1 (some m))).grown (hg5.trans (grown_drewN w5 1 (some m))), (H3.out.2.2.1.trans (grown_drewN wr 1 (some m))).trans (hg5.trans (grown_drewN w5 1 (some m))),
                  (hg5.block _ H3.out.2.2.2.lt (fun e => hkm (by cases e; rfl))).trans H3.out.2.2.2⟩)
              have hget := hS5 r u (by omega)
              rw [HI.out.2.2.2.1] at hget
              obtain ⟨w6, st, l6, e6, ⟨o6, ho6⟩, M6, hg6, hst⟩ := H5.out.1.bump kt53 Tryz.underlying52 zero3 ((r : Int), (u : Int))
              obtain ⟨w7, e7, M7, o7, ho7⟩ := hst (.int .i64 ((s + n : Nat) : Int))
              rw [Int.natCast_add] at e7
              have L5 := H5.out.1.look kt53 Tryz.underlying52 (zero3 _) ((r : Int), (u : Int)) false
              have L6 := M6.look kt53 Tryz.underlying52 (zero3 _) ((r : Int), (u : Int)) false
              rw [hget] at e6 hg6 L5
              rw [hg6] at L6
              simp only [Option.getD_some, enc2, Bool.false_eq_true, if_false] at e6 L5 L6
              obtain ⟨z1, z2⟩ := wrap_sum s n hsb hcb
              rw [Int.natCast_add] at z1 z2
              have v1 := H5.out.2.1.bk.cell 0
              have v2 := H5.out.2.2.2.cell 0
              have v3 := H5.out.2.2.2.cell 1
              have g6 : w5.drew.grownBy w6 (some m) := by rw [ho6]; exact grown_block _ _ _
              have y1 := (H5.out.2.1.grown g6).bk.cell 0
              have K6 : Blk w6 W.heap.size #[.int .i64 r, .int .i64 u] 53 := (g6.block _ H5.out.2.2.2.lt (fun e => hkm (by cases e; rfl))).trans H5.out.2.2.2
              have y2 := K6.cell 0
              have y3 := K6.cell 1
              have g7 : w5.drew.grownBy w7 (some m) := g6.trans (by rw [ho7]; exact grown_block _ _ _)
              have H7 := hid (show MapIs enc2 w7 m (put ((r : Int), (u : Int)) (.int .i64 ((s + n : Nat) : Int)) M5) ∧ CW W0 X (some ⟨g, o, none⟩) c t k f m w7 ∧ W.grownBy w7 (some m) ∧ Blk w7 W.heap.size #[.int .i64 r, .int .i64 u] 53 from
                ⟨M7, H5.out.2.1.grown g7, H5.out.2.2.1.trans g7, (g7.block _ H5.out.2.2.2.lt (fun e => hkm (by cases e; rfl))).trans H5.out.2.2.2⟩)
              have HI2 : Hid (CntI X row r u m M (kk + 1) (s + n) (put ((r : Int), (u : Int)) (.int .i64 ((s + n : Nat) : Int)) M5)) := by
                have := HI.out.take HX.out ⟨hx0, hbit⟩ hK5 hS5
                rw [← HN.out.2, ← HN.out.1] at this
                exact this
              clear hM5 hK5 hS5 hg5 hget hst M6 hg6 M7 ho6 ho7 g6 K6 g7 CH f0 q2
              go_wp2_with fail
              go_region
              all_goals (go_wp2_with fail; exact ⟨⟨kk + 1, s + n, _, by omega, by go_num, H7, HI2⟩, by simp [intOf]; omega⟩)
          · have dy : decide ((0 : Int) < x) = false := by simpa using hx0
            have HI2 := hid (HI.out.skip HX.out (fun h => hx0 h.1))
            go_wp2_with fail
            exact ⟨⟨kk + 1, s, Mc, by omega, by go_num, H3, HI2.out⟩, by simp [intOf]; omega⟩
        · have hke : kk = row.length := by omega
          subst hke
          obtain ⟨hs, hKn⟩ := HI.out.done HK.out
          have lk := H3.out.1.look kt53 Tryz.underlying52 (zero3 _) ((r : Int), (u : Int)) false
          rw [HI.out.2.2.2.1] at lk
          simp only [Option.getD_some, enc2, Bool.false_eq_true, if_false] at lk
          rw [hs] at lk
          have s1 := H3.out.2.1.bk.cell 0
          have s2 := H3.out.2.2.2.cell 0
          have s3 := H3.out.2.2.2.cell 1
          have HKn := hid hKn
          clear hs hKn
          go_wp2_with fail
          go_ret
          exact ⟨rfl, Mc, H3.out.1, HKn.out, HI.out.2.1, H3.out.2.2.1⟩

end Go.Proofs.YtkmpdcckgibkhaaGreat
/-
  The choices, in their order: no program.
-/
namespace Go.Proofs.YtkmpdcckgibkhaaGreat
open Go.RowKit Go.ChangeMaps

def colL (F : Nat → List (List Nat)) (u : Nat) : List Int → Nat → List (List Nat)
  | [], _ => []
  | x :: r, c => (if 0 < x ∧ u.testBit c = false then (F (u ||| 2 ^ c)).map (c :: ·) else []) ++ colL F u r (c + 1)
/-- The choices of the rows, with the columns u in use. -/
def chs : List (List Int) → Nat → List (List Nat)
  | [], _ => [[]]
  | r :: rest, u => colL (chs rest) u r 0
theorem colL_len (F : Nat → List (List Nat)) (f : Nat → Nat) (h : ∀ u, (F u).length = f u) (u : Nat) : ∀ (r : List Int) (c : Nat), (colL F u r c).length = colS f u r c := by
  intro r
  induction r with
  | nil => intro c; rfl
  | cons x r ih =>
    intro c
    simp only [colL, colS, List.length_append, ih]
    congr 1
    split
    · rw [List.length_map, h]
    · rfl
theorem chs_len : ∀ (X : List (List Int)) (u : Nat), (chs X u).length = cntC X u := by
  intro X
  induction X with
  | nil => intro u; rfl
  | cons r rest ih => intro u; exact colL_len _ _ ih u r 0
theorem colL_skip {F : Nat → List (List Nat)} {u : Nat} {row : List Int} {kk : Nat} {x : Int} (hx : row[kk]? = some x) (hn : ¬ (0 < x ∧ u.testBit kk = false)) : colL F u (row.drop kk) kk = colL F u (row.drop (kk + 1)) (kk + 1) := by
  have hl : kk < row.length := (List.getElem?_eq_some_iff.1 hx).1
  rw [List.drop_eq_getElem_cons hl]
  rw [List.getElem?_eq_getElem hl] at hx
  cases hx
  rw [colL, if_neg hn, List.nil_append]
theorem colL_take {F : Nat → List (List Nat)} {u : Nat} {row : List Int} {kk : Nat} {x : Int} (hx : row[kk]? = some x) (hn : 0 < x ∧ u.testBit kk = false) : colL F u (row.drop kk) kk = (F (u ||| 2 ^ kk)).map (kk :: ·) ++ colL F u (row.drop (kk + 1)) (kk + 1) := by
  have hl : kk < row.length := (List.getElem?_eq_some_iff.1 hx).1
  rw [List.drop_eq_getElem_cons hl]
  rw [List.getElem?_eq_getElem hl] at hx
  cases hx
  rw [colL, if_pos hn]
theorem colL_here {F : Nat → List (List Nat)} {u : Nat} {row : List Int} {kk k : Nat} {x : Int} {T : List Nat} (hx : row[kk]? = some x) (hn : 0 < x ∧ u.testBit kk = false) (h : (colL F u (row.drop kk) kk)[k]? = some T) (hk : k < (F (u ||| 2 ^ kk)).length) :
    ∃ T', T = kk :: T' ∧ (F (u ||| 2 ^ kk))[k]? = some T' := by
  rw [colL_take hx hn, List.getElem?_append_left (by rw [List.length_map]; exact hk), List.getElem?_map] at h
  rw [List.getElem?_eq_getElem hk] at h ⊢
  exact ⟨_, (by simpa using h.symm), rfl⟩
theorem colL_later {F : Nat → List (List Nat)} {u : Nat} {row : List Int} {kk k : Nat} {x : Int} {T : List Nat} (hx : row[kk]? = some x) (hn : 0 < x ∧ u.testBit kk = false) (h : (colL F u (row.drop kk) kk)[k]? = some T) (hk : (F (u ||| 2 ^ kk)).length ≤ k) :
    (colL F u (row.drop (kk + 1)) (kk + 1))[k - (F (u ||| 2 ^ kk)).length]? = some T := by
  rw [colL_take hx hn, List.getElem?_append_right (by rw [List.length_map]; exact hk), List.length_map] at h
  exact h
theorem chs_row {X : List (List Int)} {r : Nat} {row : List Int} (h : X[r]? = some row) (u : Nat) : chs (X.drop r) u = colL (chs (X.drop (r + 1))) u (row.drop 0) 0 := by
  have hl : r < X.length := (List.getElem?_eq_some_iff.1 h).1
  rw [List.drop_eq_getElem_cons hl]
  rw [List.getElem?_eq_getElem hl] at h
  cases h
  rfl

theorem CW.above {W0 W W' : World} {X : List (List Int)} {a : Option Addr} {c t k f m B : Nat} {row : Option Nat} (h : CW W0 X a c t k f m W) (hg : W.grownBy W' row) (hr : ∀ j, row = some j → B ≤ j) (ht : t < B) (hk : k < B) (hf : f < B) (h0 : W0.heap.size ≤ B) : CW W0 X a c t k f m W' := by
  have hne : ∀ j, j < B → some j ≠ row := fun j hj e => by have := hr j e.symm; omega
  exact ⟨h.below.grown hg h.below.size (fun j hj => by have := hr j hj; omega), (hg.block t h.bt.lt (hne t ht)).trans h.bt, (hg.block k h.bk.lt (hne k hk)).trans h.bk,
    (hg.block f h.bf.lt (hne f hf)).trans h.bf, h.ge, h.tm, h.km, h.fm⟩

end Go.Proofs.YtkmpdcckgibkhaaGreat
/-
  Walks: the possible choice at a position.
-/
namespace Go.Proofs.YtkmpdcckgibkhaaGreat
open Go.RowKit Go.ChangeMaps

/-- What stands while a choice is sought. -/
def IteB (w : World) (X : List (List Int)) (a : Option Addr) (c t k f m B : Nat) (v8 : Value) (O : List Nat) (W : World) : Prop :=
  CW w X a c t k f m W ∧ (∃ M, MapIs enc2 W m M ∧ Kn X 0 M) ∧ W.ownsRow B 3 1 v8 O.length ((O.map fun d => ((d : Nat) : Int)).map (Value.int .i64)) ∧ B ≤ W.heap.size
theorem IteB.count {w W W' : World} {X : List (List Int)} {a : Option Addr} {c t k f m B : Nat} {v8 : Value} {O : List Nat} (h : IteB w X a c t k f m B v8 O W) (hB : m < B) {M' : List ((Int × Int) × Value)} (hM : MapIs enc2 W' m M') (hK : Kn X 0 M') (hg : W.grownBy W' (some m)) : IteB w X a c t k f m B v8 O W' :=
  ⟨h.1.grown hg, ⟨M', hM, hK⟩, h.2.2.1.kept hg (.inr fun e => by have := (h.2.2.1.lt _ e).1; omega), Nat.le_trans h.2.2.2 hg.size⟩

theorem CW.start (w w1 : World) (X : List (List Int)) (a : Option Addr) (c : Nat) (hb : Below w.heap.size w w1) (bt : Blk w1 w.heap.size #[.slice a X.length c] 22) :
    CW w X a c w.heap.size (w1.heap.size + 1) (w1.heap.size + 1 + 1) w1.heap.size (((w1.alloc (.map #[] 0)).alloc (.cells #[.map (some w1.heap.size)] 52)).alloc (.cells #[.func (.func 26) #[] #[.pointer (some ⟨w.heap.size, 0, none⟩), .pointer (some ⟨w1.heap.size + 1, 0, none⟩), .pointer (some ⟨w1.heap.size + 1 + 1, 0, none⟩)]] 23)) ∧
    MapIs enc2 (((w1.alloc (.map #[] 0)).alloc (.cells #[.map (some w1.heap.size)] 52)).alloc (.cells #[.func (.func 26) #[] #[.pointer (some ⟨w.heap.size, 0, none⟩), .pointer (some ⟨w1.heap.size + 1, 0, none⟩), .pointer (some ⟨w1.heap.size + 1 + 1, 0, none⟩)]] 23)) w1.heap.size [] := by
  have hs := hb.size
  have hl := bt.lt
  refine ⟨⟨((hb.alloc hb.size _).alloc (by simp; omega) _).alloc (by simp; omega) _, ((bt.alloc _).alloc _).alloc _, ?_, ?_, hs, by omega, by omega, by omega⟩, ((MapIs.made w1).alloc _).alloc _⟩
  · exact Blk.alloc (Blk.mk' (by simp) rfl) _
  · exact Blk.mk' (by simp) rfl

theorem IteB.push {w W W' : World} {X : List (List Int)} {a : Option Addr} {c t k f m B : Nat} {v8 v' : Value} {O : List Nat} (h : IteB w X a c t k f m B v8 O W) (ht : t < B) (hk : k < B) (hf : f < B) (hm : m < B) (hw : w.heap.size ≤ B) (x : Nat)
    (hown : W'.ownsRow B 3 1 v' (O.length + 1) ((O.map fun d => ((d : Nat) : Int)).map (Value.int .i64) ++ [.int .i64 (x : Int)])) (hg : (W.alloc (.cells #[.int .i64 (x : Int)] 3)).grownBy W' v8.ownBlock) : IteB w X a c t k f m B v' (O ++ [x]) W' := by
  have hg2 : W.grownBy W' v8.ownBlock := (grown_alloc W _ _).trans hg
  have hr : ∀ j, v8.ownBlock = some j → B ≤ j := fun j hj => (h.2.2.1.lt j hj).1
  obtain ⟨M, hM, hK⟩ := h.2.1
  refine ⟨h.1.above hg2 hr ht hk hf hw, ⟨M, (hg2.block m hM.lt (fun e => by have := hr m e.symm; omega)).trans hM, hK⟩, ?_, Nat.le_trans h.2.2.2 hg2.size⟩
  rw [List.length_append, List.map_append, List.map_append]
  exact hown
theorem Kn.all {X : List (List Int)} {r : Nat} {M M' : List ((Int × Int) × Value)} (h : Kn X 0 M) (h1 : Kn X r M') (h2 : SameB r M M') : Kn X 0 M' := fun i u v _ hg => by
  by_cases hi : r ≤ i
  · exact h1 i u v hi hg
  · rw [h2 i u (by omega)] at hg; exact h i u v (Nat.zero_le _) hg
theorem Kn.some {X : List (List Int)} {M : List ((Int × Int) × Value)} (h : Kn X 0 M) (r : Nat) : Kn X r M := fun i u v _ hg => h i u v (Nat.zero_le _) hg
theorem wrap_sub (a b : Nat) (ha : a ≤ 3125) (hb : b ≤ a) : wrap64 ((a : Int) - (b : Int)) = ((a - b : Nat) : Int) ∧ IntKind.i64.wrap ((a : Int) - (b : Int)) = ((a - b : Nat) : Int) := ⟨by unfold wrap64; omega, by rw [IntKind.wrap_i64]; omega⟩

set_option maxRecDepth 100000 in
set_option maxHeartbeats 8000000 in
theorem postsItem_ok (a : Option Addr) (c : Nat) (X : List (List Int)) (w : World) (hr : RowsAt w a X) (hs : Square X) (h5 : X.length ≤ 5) (kq : Nat) (T : List Nat) (hT : (chs X 0)[kq]? = some T) :
    Calls Tryz.prog 9 #[.slice a X.length c, .int .i64 kq] w fun e w' => ∃ a' c', e = .returned (.tuple #[.slice a' T.length c', .int .i64 0]) ∧ Ints w' a' (T.map fun d => ((d : Nat) : Int)) ∧ Below w.heap.size w w' := by
  have hkc : kq < cntC X 0 := by rw [← chs_len]; exact (List.getElem?_eq_some_iff.1 hT).1
  have hcl : cntC X 0 ≤ 3125 := by
    have h1 := cntC_le X 0 (fun row hr => by have := (hs.2 row hr).1; omega)
    have h2 : 5 ^ X.length ≤ 5 ^ 5 := Nat.pow_le_pow_right (by omega) h5
    omega
  have HR := hid hr
  have HSQ := hid hs
  have HT := hid hT
  have hd0 : decide ((kq : Int) < 0) = false := by simp
  have hmm := @run_makeMap Tryz.prog
  have hmf : ∀ (fn : Fn) (first cap : Array Value) (w : World), (Instr.makeFunc fn first cap).run Tryz.prog w = .ok (.func fn first cap) w := fun _ _ _ _ => rfl
  have hb0 := (Below.refl _ w).alloc (Nat.le_refl _) (.cells #[.slice a X.length c] 22)
  have bt0 := Blk.new w #[.slice a X.length c] 22
  have C0 := hid (isTable_ok a c X _ (hr.below hb0 (Nat.le_refl _)) hs)
  have t0 := bt0.cell 0
  clear hr hs hT
  go_enter Tryz.func9, Tryz.ntmps9
  go_wp2_with fail
  refine C0.out.mono ?_
  rintro e w1 ⟨rfl, hb1⟩
  have bt1 := bt0.below hb1 bt0.lt
  have hb2 := hb0.trans (hb1.mono hb0.size)
  clear t0
  obtain ⟨hC, hM⟩ := CW.start w w1 X a c hb2 bt1
  have hnl := bt1.lt
  go_wp2_with fail
  generalize ((w1.alloc (.map #[] 0)).alloc (.cells #[.map (some w1.heap.size)] 52)).alloc (.cells #[.func (.func 26) #[] #[.pointer (some ⟨w.heap.size, 0, none⟩), .pointer (some ⟨w1.heap.size + 1, 0, none⟩), .pointer (some ⟨w1.heap.size + 1 + 1, 0, none⟩)]] 23) = W3 at *
  clear bt0 bt1 hb0 hb1 hb2 hmm hmf C0
  generalize w1.heap.size = m at *
  have CNT := hid (fun (r u : Nat) (M : List ((Int × Int) × Value)) (W : World) (hr : r ≤ X.length) => count_any w X a c w.heap.size (m + 1) (m + 1 + 1) m HR.out HSQ.out h5 (X.length - r) r u M W (by omega))
  refine (CNT.out 0 0 [] W3 (by omega) (Nat.two_pow_pos _) hC hM (fun i u v _ hg => by cases hg)).mono ?_
  rintro e w4 ⟨rfl, M4, hM4, hK4, -, hg4⟩
  have hC4 := hC.grown hg4
  have hcl2 : (cntC (X.drop 0) 0 : Nat) = cntC X 0 := rfl
  rw [hcl2]
  have f4 := hC4.bf.lt
  obtain ⟨B, hB⟩ : ∃ B, B = w4.heap.size := ⟨_, rfl⟩
  have HI0 := hid (show IteB w X a c w.heap.size (m + 1) (m + 1 + 1) m B (.slice none 0 0) [] w4 from ⟨hC4, ⟨M4, hM4, hK4⟩, ⟨rfl, .inl ⟨rfl, rfl⟩⟩, by omega⟩)
  have hdc : decide ((cntC X 0 : Int) ≤ (kq : Int)) = false := by simp; omega
  have q4 := hC4.bt.cell 0
  have hmB : m + 1 + 1 < B := by omega
  have hdn : decide (cntC X 0 ≤ kq) = false := by simp; omega
  clear hC hM hM4 hK4 hg4 hC4 f4 hB hcl2
  go_wp2_with fail
  go_loopw [1, 8, 9, 30] (fun kv v8 uv rv wr => ∃ (k u r : Nat) (O R : List Nat), r ≤ X.length ∧ kv = .int .i64 k ∧ uv = .int .i64 u ∧ rv = .int .i64 r ∧ k ≤ 3125 ∧ u < 2 ^ X.length ∧ Hid (IteB w X a c w.heap.size (m + 1) (m + 1 + 1) m B v8 O wr) ∧ Hid ((chs (X.drop r) u)[k]? = some R ∧ O ++ R = T ∧ O.length = r)) (fun _ _ _ rv _ => X.length - (intOf rv).toNat)
  case atStart => exact ⟨kq, 0, 0, [], T, by omega, rfl, rfl, rfl, by omega, Nat.two_pow_pos _, HI0, HT.out, rfl, rfl⟩
  case round =>
    obtain ⟨k, u, r, O, R, hrN, rfl, rfl, rfl, hk, hu, HI, HC⟩ := hrel
    by_cases hlt : r < X.length
    · obtain ⟨row, hrow⟩ : ∃ row, X[r]? = some row := ⟨X[r], List.getElem?_eq_getElem hlt⟩
      obtain ⟨g, o, b, cr, rfl, hg, hcell, hri, hrn, hrc⟩ := HR.out.at r row hrow
      have q1 := (HI.out.1.below.cell (p := ⟨g, o + r, none⟩) hg).trans hcell
      have hrl := (HSQ.out.2 row (List.mem_of_getElem? hrow)).1
      have hrx := (HSQ.out.2 row (List.mem_of_getElem? hrow)).2
      have hN5 : row.length ≤ 5 := by omega
      have dr : decide ((r : Int) < (X.length : Int)) = true := by simpa using hlt
      have HRR := hid (And.intro hrow (And.intro hrx hrl))
      have HC2 := hid (show (colL (chs (X.drop (r + 1))) u (row.drop 0) 0)[k]? = some R by rw [← chs_row hrow]; exact HC.out.1)
      clear hrow hrx hrl hcell
      go_wp2_with fail
      go_loopw [1, 8, 9, 37] (fun kv v8 uv cv wr => ∃ (kk k' : Nat), kk ≤ row.length ∧ cv = .int .i64 kk ∧ kv = .int .i64 k' ∧ v8 = u8 ∧ uv = .int .i64 u ∧ k' ≤ 3125 ∧ Hid (IteB w X (some ⟨g, o, none⟩) c w.heap.size (m + 1) (m + 1 + 1) m B u8 O wr) ∧ Hid ((colL (chs (X.drop (r + 1))) u (row.drop kk) kk)[k']? = some R)) (fun _ _ _ cv _ => row.length - (intOf cv).toNat)
      case atStart => exact ⟨0, k, by omega, rfl, rfl, rfl, rfl, hk, HI, HC2⟩
      case round =>
        obtain ⟨kk, k', hkk, rfl, rfl, rfl, rfl, hk', HI2, HC3⟩ := hrel
        by_cases hlt2 : kk < row.length
        · obtain ⟨x, hx, -⟩ := list_drop_cons row kk hlt2
          obtain ⟨g2, o2, rfl, hg2, hc2⟩ := hri.at (by omega)
          have q2 := (HI2.out.1.below.cell (p := ⟨g2, o2 + kk, none⟩) hg2).trans (hc2 kk x hx)
          have hx9 := HRR.out.2.1 x (List.mem_of_getElem? hx)
          have hu512 : u < 512 := by have := Nat.pow_le_pow_right (show 0 < 2 by omega) h5; omega
          have dk : decide ((kk : Int) < (row.length : Int)) = true := by simpa using hlt2
          have HX := hid hx
          clear hc2 hx
          by_cases hx0 : x = 0
          · subst hx0
            have HC4 := hid (show (colL (chs (X.drop (r + 1))) u (row.drop (kk + 1)) (kk + 1))[k']? = some R by rw [← colL_skip HX.out (by simp)]; exact HC3.out)
            go_wp2_with fail
            exact ⟨⟨kk + 1, k', by omega, by go_num, rfl, rfl, rfl, hk', HI2, HC4⟩, by simp [intOf]; omega⟩
          · have hxe : (x == 0) = false := by simpa using hx0
            have hx1 : 0 < x := by omega
            cases hbit : u.testBit kk with
            | true =>
              have fb := bit_yes u kk hu512 hbit
              have HC4 := hid (show (colL (chs (X.drop (r + 1))) u (row.drop (kk + 1)) (kk + 1))[k']? = some R by rw [← colL_skip HX.out (by rw [hbit]; simp)]; exact HC3.out)
              go_wp2_with fail
              exact ⟨⟨kk + 1, k', by omega, by go_num, rfl, rfl, rfl, hk', HI2, HC4⟩, by simp [intOf]; omega⟩
            | false =>
              have fb := bit_no u kk hu512 hbit
              have hop := or_pow u kk hu512 (by omega)
              have hop2 := or_pow2 u kk hu512 (by omega)
              have hkl : kk < X.length := by rw [← HRR.out.2.2]; exact hlt2
              have hu2 : u ||| 2 ^ kk < 2 ^ X.length := Nat.or_lt_two_pow hu (Nat.pow_lt_pow_right (by omega) hkl)
              obtain ⟨hC5, ⟨M5, hM5, hK5⟩, hO5, hs5⟩ := HI2.out
              have C := CNT.out (r + 1) (u ||| 2 ^ kk) M5 wr.drew hlt hu2 (hC5.grown (grown_drewN wr 1 (some m))) hM5.drew (hK5.some _)
              have hcb : cntC (X.drop (r + 1)) (u ||| 2 ^ kk) ≤ 3125 := by
                have h1 := cntC_le (X.drop (r + 1)) (u ||| 2 ^ kk) (fun row hr => by have := (HSQ.out.2 row (List.mem_of_mem_drop hr)).1; omega)
                have h2 : 5 ^ (X.drop (r + 1)).length ≤ 5 ^ 5 := Nat.pow_le_pow_right (by omega) (by rw [List.length_drop]; omega)
                omega
              obtain ⟨u2, hu2e⟩ : ∃ u2, u2 = u ||| 2 ^ kk := ⟨_, rfl⟩
              rw [← hu2e] at hop hop2 hu2 C hcb
              obtain ⟨n, hn⟩ : ∃ n, n = cntC (X.drop (r + 1)) u2 := ⟨_, rfl⟩
              unfold CntP at C
              rw [← hn] at C hcb
              have hrw : ((r + 1 : Nat) : Int) = (r : Int) + 1 := by omega
              rw [hrw] at C
              have CH := hid (C.mono (R' := fun e w' => e = .returned (.int .i64 (n : Int)) ∧ Hid (IteB w X (some ⟨g, o, none⟩) c w.heap.size (m + 1) (m + 1 + 1) m B u8 O w')) fun e w' h => by
                obtain ⟨h1, M', h2, h3, h4, h5⟩ := h
                exact ⟨h1, HI2.out.count (by omega) h2 (hK5.all h3 h4) ((grown_drewN wr 1 (some m)).trans h5)⟩)
              have HN := hid (And.intro hn hu2e)
              have f0 := hC5.bf.cell 0
              have hrw1 := wrap_up r (by omega)
              have hlenF : (chs (X.drop (r + 1)) (u ||| 2 ^ kk)).length = n := by rw [chs_len, ← hu2e, ← hn]
              have HLF := hid hlenF
              clear C hrw hn hu2e hC5 hM5 hK5 hO5 hs5 hlenF
              by_cases hkn : k' < n
              · have dkn : decide ((k' : Int) < (n : Int)) = true := by simpa using hkn
                obtain ⟨R', rfl, hR'⟩ := colL_here HX.out ⟨hx1, hbit⟩ HC3.out (by rw [HLF.out]; exact hkn)
                have HR2 := hid hR'
                clear hR'
                go_wp2_with fail
                go_region_with (go_at_call 26; refine CH.out.mono ?_; rintro e w5 ⟨rfl, HI5⟩)
                have hO5 := HI5.out.2.2.1
                have hs5 := HI5.out.2.2.2
                have hOl : O.length ≤ 1000000 := by have := HC.out.2.2; omega
                go_wp2_with (at_builtin; go_must (refine wpList_app _ rfl (.tmp 62) (.tmp 64) 24 rfl B 3 (.int .i64 0) 8 Tryz.underlying24 infoS3 rfl _ O.length _ rfl (hO5.alloc _) (some ⟨w5.heap.size, 0, none⟩) 1 1 [.int .i64 (kk : Int)] rfl rfl (vals_new _ _ _ _ rfl) (fun h => by cases h) (by simp [Value.oneCell']) (by omega) (by omega) (by simp; omega) ?_))
                intro v6 w6 hown6 hgrow6 _
                have HI6 := hid (HI5.out.push (by omega) (by omega) hmB (by omega) (by omega) kk (by simpa using hown6) hgrow6)
                clear hown6 hgrow6 hO5 hs5
                go_wp2_with fail
                refine ⟨⟨k', u2, r + 1, O ++ [kk], R', by omega, rfl, rfl, by go_num, hk', hu2, HI6, ?_, ?_, ?_⟩, by simp [intOf]; omega⟩
                · rw [HN.out.2]; exact HR2.out
                · rw [List.append_assoc]; exact HC.out.2.1
                · rw [List.length_append, HC.out.2.2]; rfl
              · have dkn : decide ((k' : Int) < (n : Int)) = false := by simp; omega
                have HC4 := hid (colL_later HX.out ⟨hx1, hbit⟩ HC3.out (by rw [HLF.out]; omega))
                rw [HLF.out] at HC4
                obtain ⟨z1, z2⟩ := wrap_sub k' n hk' (by omega)
                go_wp2_with fail
                go_region_with (go_at_call 26; refine CH.out.mono ?_; rintro e w5 ⟨rfl, HI5⟩)
                go_wp2_with fail
                exact ⟨⟨kk + 1, k' - n, by omega, by go_num, rfl, rfl, rfl, by omega, HI5, HC4⟩, by simp [intOf]; omega⟩
        · exfalso
          have := HC3.out
          rw [show row.drop kk = [] from List.drop_eq_nil_of_le (by omega), colL] at this
          cases this
    · have hre : r = X.length := by omega
      subst hre
      have hTO : O = T := by
        obtain ⟨h1, h2, -⟩ := HC.out
        rw [List.drop_length, chs] at h1
        have hR : R = [] := by
          cases k with
          | zero => simpa using h1.symm
          | succ k => simp at h1
        rw [hR, List.append_nil] at h2
        exact h2
      subst hTO
      obtain ⟨a', c', rfl, hi⟩ := ownsRow_ints (l := O.map fun d => ((d : Nat) : Int)) (by simpa using HI.out.2.2.1)
      rw [List.length_map]
      have hF := hid (And.intro hi HI.out.1.below)
      clear hi
      go_wp2_with fail
      go_ret2
      exact ⟨a', c', rfl, hF.out⟩

end Go.Proofs.YtkmpdcckgibkhaaGreat
/-
  The plain law of TopAssigned: the orders that fit are the choices, in their order. No program.
-/
namespace Go.Proofs.YtkmpdcckgibkhaaGreat
open Go.RowKit

/-- The lists of m different numbers out of some. -/
def prm : List Nat → Nat → List (List Nat)
  | _, 0 => [[]]
  | left, m + 1 => left.flatMap fun c => (prm (left.erase c) m).map (c :: ·)
/-- The columns of an order. -/
def colN (n k : Nat) : List Nat := (ordL n k).map fun x => (x - 1).toNat
theorem ord_all : ∀ n, n < 6 → (List.range (facN n)).map (colN n) = prm (List.range n) n := by decide +kernel
theorem ord_in : ∀ n, n < 6 → ∀ k, k < facN n → ∀ x ∈ ordL n k, 1 ≤ x ∧ x ≤ n := by decide +kernel

/-- Each row allows its column. -/
def fitR : List (List Int) → List Nat → Bool
  | r :: rest, c :: cs => decide (0 < r.getD c 0) && fitR rest cs
  | _, _ => true
def freeL (N u : Nat) : List Nat := (List.range N).filter fun c => !u.testBit c

theorem freeL_erase (N u c : Nat) (hc : c ∈ freeL N u) : (freeL N u).erase c = freeL N (u ||| 2 ^ c) := by
  have hn : (freeL N u).Nodup := (List.nodup_range).filter _
  rw [hn.erase_eq_filter]
  unfold freeL
  rw [List.filter_filter]
  apply List.filter_congr
  intro x _
  rw [Nat.testBit_or, Nat.testBit_two_pow]
  by_cases h : x = c
  · subst h; simp
  · have h2 : ¬ c = x := fun e => h e.symm
    simp [h, h2]
theorem colL_flat (F : Nat → List (List Nat)) (u : Nat) : ∀ (r : List Int) (c : Nat), colL F u r c = (List.range r.length).flatMap fun i => if 0 < r.getD i 0 ∧ u.testBit (c + i) = false then (F (u ||| 2 ^ (c + i))).map ((c + i) :: ·) else [] := by
  intro r
  induction r with
  | nil => intro c; rfl
  | cons x r ih =>
    intro c
    rw [colL, ih, List.length_cons, List.range_succ_eq_map, List.flatMap_cons, List.flatMap_map]
    congr 1
    congr 1
    funext i
    simp only [List.getD_cons_succ, show c + 1 + i = c + Nat.succ i by omega]

theorem filter_flat {α β : Type} (p : α → Bool) (f : α → List β) : ∀ l : List α, (l.filter p).flatMap f = l.flatMap fun x => if p x then f x else [] := by
  intro l
  induction l with
  | nil => rfl
  | cons x l ih =>
    rw [List.filter_cons, List.flatMap_cons]
    cases h : p x with
    | true => simp [ih]
    | false => simp [ih]
theorem flat_filter {α β : Type} (q : β → Bool) (f : α → List β) : ∀ l : List α, (l.flatMap f).filter q = l.flatMap fun x => (f x).filter q := by
  intro l
  induction l with
  | nil => rfl
  | cons x l ih => rw [List.flatMap_cons, List.flatMap_cons, List.filter_append, ih]
theorem flat_congr {α β : Type} (f g : α → List β) : ∀ l : List α, (∀ x ∈ l, f x = g x) → l.flatMap f = l.flatMap g := by
  intro l
  induction l with
  | nil => intro _; rfl
  | cons x l ih => intro h; rw [List.flatMap_cons, List.flatMap_cons, h x List.mem_cons_self, ih fun y hy => h y (List.mem_cons_of_mem _ hy)]

theorem chs_perm (N : Nat) : ∀ (rows : List (List Int)) (u : Nat), (∀ r ∈ rows, r.length = N) → (prm (freeL N u) rows.length).filter (fitR rows) = chs rows u := by
  intro rows
  induction rows with
  | nil => intro u _; rfl
  | cons r rest ih =>
    intro u h
    have hr := h r List.mem_cons_self
    rw [List.length_cons, prm, chs, colL_flat, flat_filter, hr]
    have h1 : ∀ c ∈ freeL N u, ((prm ((freeL N u).erase c) rest.length).map (c :: ·)).filter (fitR (r :: rest)) = if 0 < r.getD c 0 then (chs rest (u ||| 2 ^ c)).map (c :: ·) else [] := by
      intro c hc
      rw [freeL_erase N u c hc, List.filter_map]
      by_cases h0 : 0 < r.getD c 0
      · rw [if_pos h0, ← ih (u ||| 2 ^ c) (fun r' hr' => h r' (List.mem_cons_of_mem _ hr'))]
        congr 1
        apply List.filter_congr
        intro x _
        show (decide (0 < r.getD c 0) && fitR rest x) = fitR rest x
        rw [decide_eq_true h0]; rfl
      · rw [if_neg h0]
        rw [List.filter_eq_nil_iff.2 (fun x _ => by show ¬ ((decide (0 < r.getD c 0) && fitR rest x) = true); rw [decide_eq_false h0]; simp)]
        rfl
    rw [flat_congr _ _ _ h1]
    unfold freeL
    rw [filter_flat]
    congr 1
    funext i
    rw [Nat.zero_add]
    cases hb : u.testBit i <;> simp

theorem freeL_zero (N : Nat) : freeL N 0 = List.range N := by
  unfold freeL
  rw [List.filter_eq_self]
  intro x _
  simp

/-- The permanent of rows of zeros and ones is the number of choices. -/
theorem perm_cnt (N : Nat) : ∀ (rows : List (List Int)) (u : Nat), (∀ r ∈ rows, r.length = N ∧ ∀ x ∈ r, x = 0 ∨ x = 1) → u < 2 ^ N → (freeL N u).length = rows.length → permC N rows u = cntC rows u := by
  intro rows
  induction rows with
  | nil =>
    intro u _ hu hf
    have hall : u = 2 ^ N - 1 := by
      apply Nat.eq_of_testBit_eq
      intro i
      rw [Nat.testBit_two_pow_sub_one]
      by_cases hi : i < N
      · rw [decide_eq_true hi]
        cases hb : u.testBit i with
        | true => rfl
        | false =>
          have : i ∈ freeL N u := List.mem_filter.2 ⟨List.mem_range.2 hi, by simp [hb]⟩
          rw [List.eq_nil_of_length_eq_zero hf] at this
          cases this
      · rw [decide_eq_false hi]
        exact Nat.testBit_lt_two_pow (Nat.lt_of_lt_of_le hu (Nat.pow_le_pow_right (by omega) (by omega)))
    simp only [permC, cntC]
    rw [if_pos hall]
  | cons r rest ih =>
    intro u h hu hf
    obtain ⟨hrl, hr01⟩ := h r List.mem_cons_self
    simp only [permC, cntC]
    have key : ∀ (l : List Int) (c : Nat), (∀ x ∈ l, x = 0 ∨ x = 1) → c + l.length ≤ N → rowS (permC N rest) u l c = colS (cntC rest) u l c := by
      intro l
      induction l with
      | nil => intro c _ _; rfl
      | cons x l ihl =>
        intro c h01 hc
        simp only [rowS, colS]
        rw [ihl (c + 1) (fun y hy => h01 y (List.mem_cons_of_mem _ hy)) (by simp at hc; omega)]
        congr 1
        by_cases hx : 0 < x ∧ u.testBit c = false
        · rw [if_pos hx, if_pos hx]
          have hx1 : x = 1 := by rcases h01 x List.mem_cons_self with h | h <;> omega
          have hcN : c < N := by simp at hc; omega
          have hcf : c ∈ freeL N u := List.mem_filter.2 ⟨List.mem_range.2 hcN, by simp [hx.2]⟩
          have hl : (freeL N (u ||| 2 ^ c)).length = rest.length := by
            rw [← freeL_erase N u c hcf, List.length_erase_of_mem hcf, hf]; rfl
          rw [ih (u ||| 2 ^ c) (fun r' hr' => h r' (List.mem_cons_of_mem _ hr')) (Nat.or_lt_two_pow hu (Nat.pow_lt_pow_right (by omega) hcN)) hl, hx1]
          simp
        · rw [if_neg hx, if_neg hx]
    exact key r 0 hr01 (by omega)

/-- How many of the first k orders fit. -/
def fitK (X : List (List Int)) (k : Nat) : Nat := ((List.range k).filter fun j => fitR X (colN X.length j)).length
theorem fitK_succ (X : List (List Int)) (k : Nat) : fitK X (k + 1) = fitK X k + if fitR X (colN X.length k) then 1 else 0 := by
  unfold fitK
  rw [List.range_succ, List.filter_append, List.length_append]
  congr 1
  simp only [List.filter_cons, List.filter_nil]
  split <;> rfl
theorem fits_all (X : List (List Int)) (hn : X.length < 6) (h : ∀ r ∈ X, r.length = X.length) : (((List.range (facN X.length)).map (colN X.length)).filter (fitR X)) = chs X 0 := by
  rw [ord_all X.length hn, ← freeL_zero X.length]
  exact chs_perm X.length X 0 h
theorem filter_at {α β : Type} (f : α → β) (p : β → Bool) : ∀ (l : List α) (k : Nat) (x : α), l[k]? = some x → p (f x) = true → ((l.map f).filter p)[((l.take k).filter fun y => p (f y)).length]? = some (f x) := by
  intro l
  induction l with
  | nil => intro k x h; simp at h
  | cons y l ih =>
    intro k x h hp
    cases k with
    | zero =>
      simp at h
      subst h
      simp [hp]
    | succ k =>
      have := ih k x (by simpa using h) hp
      rw [List.map_cons, List.take_succ_cons, List.filter_cons, List.filter_cons]
      cases hy : p (f y) with
      | true => simpa using this
      | false => simpa using this
theorem fit_at (X : List (List Int)) (hn : X.length < 6) (h : ∀ r ∈ X, r.length = X.length) (k : Nat) (hk : k < facN X.length) (hf : fitR X (colN X.length k) = true) : (chs X 0)[fitK X k]? = some (colN X.length k) := by
  rw [← fits_all X hn h]
  have := filter_at (colN X.length) (fitR X) (List.range (facN X.length)) k k (by simp [hk]) hf
  rw [List.take_range, Nat.min_eq_left (by omega)] at this
  exact this
theorem fit_end (X : List (List Int)) (hn : X.length < 6) (h : ∀ r ∈ X, r.length = X.length ∧ ∀ x ∈ r, x = 0 ∨ x = 1) : permC X.length X 0 = fitK X (facN X.length) := by
  rw [perm_cnt X.length X 0 h (Nat.two_pow_pos _) (by rw [freeL_zero, List.length_range]), ← chs_len, ← fits_all X hn (fun r hr => (h r hr).1), List.filter_map, List.length_map]
  rfl

end Go.Proofs.YtkmpdcckgibkhaaGreat
