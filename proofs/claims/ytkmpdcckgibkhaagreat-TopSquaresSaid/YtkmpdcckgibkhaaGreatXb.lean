/-
  Contracts of the package marks, turned from the texts of the laws of marks (abelian squares).
-/
import Derived.Test.YtkmpdcckgibkhaaGreatXa
namespace Go.Proofs.YtkmpdcckgibkhaaGreat.Mk
open Go.RowKit
/-- The smallest half of an abelian square at the beginning, from p on. -/
def abI (d : List UInt8) (p : Nat) : Option Nat :=
  if 2 * p ≤ d.length then (if sameB (d.take p) ((d.drop p).take p) = true then some p else abI d (p + 1)) else none
termination_by d.length + 1 - p
def abO : List UInt8 → Nat → Option (Nat × Nat)
  | [], _ => none
  | c :: d, i => match abI (c :: d) 1 with
    | some p => some (i, p)
    | none => abO d (i + 1)
/-- The first abelian square: its position and half of its length. -/
def ab (l : List UInt8) : Option (Nat × Nat) := abO l 0
theorem abI_yes (d : List UInt8) (p : Nat) (h : 2 * p ≤ d.length) (he : sameB (d.take p) ((d.drop p).take p) = true) : abI d p = some p := by
  rw [abI, if_pos h, if_pos he]
theorem abI_no (d : List UInt8) (p : Nat) (h : 2 * p ≤ d.length) (he : sameB (d.take p) ((d.drop p).take p) = false) : abI d p = abI d (p + 1) := by
  rw [abI, if_pos h, if_neg (by rw [he]; simp)]
theorem abI_end (d : List UInt8) (p : Nat) (h : d.length < 2 * p) : abI d p = none := by
  rw [abI, if_neg (by omega)]
theorem abO_some (d : List UInt8) (i p : Nat) (h : abI d 1 = some p) : abO d i = some (i, p) := by
  cases d with
  | nil => rw [abI_end _ _ (by simp)] at h; cases h
  | cons c d => rw [abO, h]
theorem abO_none (l : List UInt8) (i : Nat) (hi : i < l.length) (h : abI (l.drop i) 1 = none) : abO (l.drop i) i = abO (l.drop (i + 1)) (i + 1) := by
  rw [List.drop_eq_getElem_cons hi] at h ⊢
  rw [abO, h]
theorem eqi4 (t : TypeId) (a0 a1 a2 a3 b0 b1 b2 b3 : Int) (w : World) (hu : ∀ w, (underlying t).run Tryz.prog w = .ok (.array 4 3) w) : (Op.equalIn 10000 t (.agg #[.int .i64 a0, .int .i64 a1, .int .i64 a2, .int .i64 a3]) (.agg #[.int .i64 b0, .int .i64 b1, .int .i64 b2, .int .i64 b3])).run Tryz.prog w = .ok (a0 == b0 && a1 == b1 && a2 == b2 && a3 == b3) w := by
  have hs : ∀ w, (sizeOf 3).run Tryz.prog w = .ok 1 w := fun w => Tryz.sizeOf3 w
  have hg : ∀ w, (isAgg 3).run Tryz.prog w = .ok false w := fun w => Tryz.isAgg3 w
  rw [show (10000 : Nat) = 9999 + 1 from rfl, Op.equalIn]
  have eqi : ∀ (x y : Int) (w : World), (Op.equalIn 9999 3 (.int .i64 x) (.int .i64 y)).run Tryz.prog w = .ok (x == y) w := fun x y w => run_equalIn_int w 9998 3 .i64 .i64 x y Tryz.underlying3
  simp [hu, Sem.run_bind, go_sem, hs, List.range'_succ, hg, eqi]
  by_cases h0 : a0 = b0 <;> by_cases h1 : a1 = b1 <;> by_cases h2 : a2 = b2 <;> by_cases h3 : a3 = b3 <;> simp [h0, h1, h2, h3, go_sem]
/-- The counts between two positions, as a value. -/
def bwS (l : List UInt8) (i j : Nat) : Value := .agg #[.int .i64 ((cn (l.take j) 0 : Int) - cn (l.take i) 0), .int .i64 ((cn (l.take j) 1 : Int) - cn (l.take i) 1), .int .i64 ((cn (l.take j) 2 : Int) - cn (l.take i) 2), .int .i64 ((cn (l.take j) 3 : Int) - cn (l.take i) 3)]
theorem cn_between (l : List UInt8) (i j k : Nat) (h : i ≤ j) : (cn (l.take j) k : Int) - cn (l.take i) k = cn ((l.drop i).take (j - i)) k := by
  have : l.take j = l.take i ++ (l.drop i).take (j - i) := by
    rw [← List.take_add, show i + (j - i) = j by omega]
  rw [this, cn_append]; omega
def sameW (l : List UInt8) (i p : Nat) : Bool := sameB ((l.drop i).take p) (((l.drop i).drop p).take p)
theorem eqW84 (l : List UInt8) (i p : Nat) (w : World) : (Op.equalIn 10000 73 (bwS l i (i + p)) (bwS l (i + p) (i + 2 * p))).run Tryz.prog w = .ok (sameW l i p) w := by
  unfold bwS sameW sameB
  rw [eqi4 73 _ _ _ _ _ _ _ _ w (fun w => Tryz.runUnderlying73 w)]
  congr 1
  have h1 := fun k => cn_between l i (i + p) k (by omega)
  have h2 := fun k => cn_between l (i + p) (i + 2 * p) k (by omega)
  rw [h1, h1, h1, h1, h2, h2, h2, h2, List.drop_drop, show i + p - i = p by omega, show i + 2 * p - (i + p) = p by omega]
  rw [Bool.eq_iff_iff]; simp; omega
theorem bin84 (l : List UInt8) (i p : Nat) (w : World) : (binOp .eql 73 (bwS l i (i + p)) (bwS l (i + p) (i + 2 * p))).run Tryz.prog w = .ok (.bool (sameW l i p)) w := by
  have h := eqW84 l i p w
  unfold bwS at h ⊢
  go_simp
theorem guard84 (x y : Operand) (l : List UInt8) (i j i2 j2 : Nat) (w : World) : (eqGuard .eql 73 x y (bwS l i j) (bwS l i2 j2)).run Tryz.prog w = .ok () w := by
  unfold bwS
  go_simp
section
attribute [local go_sem] Oper.semAt_some
/-- The table of counts of all beginnings lies at block g; block pb holds the slice. -/
structure Tab (l : List UInt8) (w : World) (pb g c : Nat) : Prop where
  row : ∀ i k, i ≤ l.length → k < 4 → w.cell? ⟨g, i * 4 + k, none⟩ = some (.int .i64 (cn (l.take i) k))
  ptr : w.cell? ⟨pb, 0, none⟩ = some (.slice (some ⟨g, 0, none⟩) (l.length + 1) c)
  glt : g < w.heap.size
  plt : pb < w.heap.size
theorem Tab.below {l : List UInt8} {w w' : World} {pb g c B : Nat} (h : Tab l w pb g c) (hb : Below B w w') (h1 : g < B) (h2 : pb < B) : Tab l w' pb g c where
  row := fun i k hi hk => (hb.cell (p := ⟨g, i * 4 + k, none⟩) h1).trans (h.row i k hi hk)
  ptr := (hb.cell (p := ⟨pb, 0, none⟩) h2).trans h.ptr
  glt := Nat.lt_of_lt_of_le h.glt hb.size
  plt := Nat.lt_of_lt_of_le h.plt hb.size
/-- The counts between two positions, the first m of four subtracted. -/
def bwF (l : List UInt8) (i j m k : Nat) : Int := if k < m then (cn (l.take j) k : Int) - cn (l.take i) k else cn (l.take j) k
set_option maxRecDepth 10000 in
set_option maxHeartbeats 4000000 in
theorem between_any (l : List UInt8) (pb g c i j : Nat) (w : World) (hl : l.length ≤ 1000) (hT : Tab l w pb g c) (hi : i ≤ l.length) (hj : j ≤ l.length) :
    Calls Tryz.prog 37 #[.int .i64 i, .int .i64 j, .pointer (some ⟨pb, 0, none⟩)] w fun e w' => e = .returned (bwS l i j) ∧ Below w.heap.size w w' := by
  have HT := hid hT
  have c1 := hT.ptr
  have c2 := hT.row j 0 hj (by omega)
  rw [Nat.add_zero] at c2
  have c3 := hT.row j 1 hj (by omega)
  have c4 := hT.row j 2 hj (by omega)
  have c5 := hT.row j 3 hj (by omega)
  have hp := hT.plt
  have hg := hT.glt
  have hle : ∀ i k, cn (l.take i) k ≤ 1000 := fun i k => Nat.le_trans (cn_le _ _) (by rw [List.length_take]; omega)
  have HLE := hid hle
  clear hT hle
  go_enter Tryz.func37, Tryz.ntmps37
  go_wp2_with fail
  go_loopw [12] (fun v wr => ∃ m : Nat, m ≤ 4 ∧ v = .int .i64 m ∧ Below w.heap.size w wr ∧ Blk wr w.heap.size (arr4 fun _ => 0) 73 ∧ Blk wr (w.heap.size + 1) (arr4 (bwF l i j m)) 73) (fun v _ => 4 - (intOf v).toNat)
  case atStart =>
    exact ⟨0, by omega, rfl, ((Below.refl _ _).alloc (Nat.le_refl _) _).alloc (by simp) _, (Blk.new w _ _).alloc _, Blk.mk' (by simp) (by simp [arr4, bwF])⟩
  case round =>
    obtain ⟨m, hm, rfl, hB, R, H⟩ := hrel
    by_cases hlt : m < 4
    · have q1 := (hB.cell (p := ⟨pb, 0, none⟩) hp).trans HT.out.ptr
      have q2 := (hB.cell (p := ⟨g, i * 4 + m, none⟩) hg).trans (HT.out.row i m hi hlt)
      have q3 := H.cell4 m hlt
      have q3f := H.free m
      have hF : bwF l i j m m = (cn (l.take j) m : Int) := by unfold bwF; rw [if_neg (by omega)]
      rw [hF] at q3
      have b1 := HLE.out i m
      have b2 := HLE.out j m
      have H2 := H.store4 (g := bwF l i j (m + 1)) m ((cn (l.take j) m : Int) - cn (l.take i) m) hlt (fun k hk => by
        unfold bwF
        by_cases h : k = m
        · subst h; simp
        · rw [if_neg h]; by_cases h3 : k < m
          · rw [if_pos (by omega), if_pos h3]
          · rw [if_neg (by omega), if_neg h3])
      have HH := hid H2
      have hw1 : wrap64 ((cn (l.take j) m : Int) - cn (l.take i) m) = (cn (l.take j) m : Int) - cn (l.take i) m := IntWalk.wrap64_in _ (by omega)
      generalize (cn (l.take j) m) = X at *
      generalize (cn (l.take i) m) = Y at *
      have HR := hid R
      have HB := hid hB
      clear c1 c2 c3 c4 c5 H H2 hF R hB
      have i1 : (i : Int) < (l.length : Int) + 1 := by omega
      have i2 : i < l.length + 1 := by omega
      have i3 : (m : Int) < 4 := by omega
      go_wp2_with fail
      go_region
      go_wp2_with fail
      exact ⟨⟨m + 1, by omega, by go_num, (HB.out.setCell (by simp) _).drew, (HR.out.other _ (by simp) _), HH.out⟩, by simp [intOf]; omega⟩
    · obtain ⟨x0, x1, x2, x3, -⟩ := H.all4
      obtain ⟨r0, r1, r2, r3, f0, f1, f2, f3⟩ := R.all4
      have e4 : m = 4 := by omega
      subst e4
      simp only [bwF, show (0 : Nat) < 4 from by omega, show (1 : Nat) < 4 from by omega, show (2 : Nat) < 4 from by omega, show (3 : Nat) < 4 from by omega, if_true] at x0 x1 x2 x3
      go_wp2
      refine bodyPost_ret (v := bwS l i j) (by simp [results, Tryz.results37, go_sem, r0, r1, r2, r3, bwS]) rfl ⟨rfl, ?_⟩
      exact (((hB.setCell (Nat.le_refl _) _).setCell (Nat.le_refl _) _).setCell (Nat.le_refl _) _).setCell (Nat.le_refl _) _
end
section
attribute [local go_sem] Oper.semAt_some
/-- The counts of all beginnings, one behind the other. -/
def row4 (l : List UInt8) (i : Nat) : List Value := [.int .i64 (cn (l.take i) 0), .int .i64 (cn (l.take i) 1), .int .i64 (cn (l.take i) 2), .int .i64 (cn (l.take i) 3)]
def tabL (l : List UInt8) (n : Nat) : List Value := (List.range n).flatMap (row4 l)
theorem tabL_succ (l : List UInt8) (n : Nat) : tabL l (n + 1) = tabL l n ++ row4 l n := by
  simp [tabL, List.range_succ]
theorem tabL_len (l : List UInt8) (n : Nat) : (tabL l n).length = n * 4 := by
  induction n with
  | zero => rfl
  | succ n ih => rw [tabL_succ, List.length_append, ih, row4]; simp; omega
theorem row4_get (l : List UInt8) (i k : Nat) (hk : k < 4) : (row4 l i)[k]? = some (.int .i64 (cn (l.take i) k)) := by
  match k, hk with
  | 0, _ => rfl
  | 1, _ => rfl
  | 2, _ => rfl
  | 3, _ => rfl
theorem tabL_get (l : List UInt8) (n i k : Nat) (hi : i < n) (hk : k < 4) : (tabL l n)[i * 4 + k]? = some (.int .i64 (cn (l.take i) k)) := by
  induction n with
  | zero => omega
  | succ n ih =>
    rw [tabL_succ]
    rcases Nat.lt_or_ge i n with h | h
    · rw [List.getElem?_append_left (by rw [tabL_len]; omega)]
      exact ih h
    · have : i = n := by omega
      subst this
      rw [List.getElem?_append_right (by rw [tabL_len]; omega), tabL_len, show i * 4 + k - i * 4 = k by omega]
      exact row4_get l i k hk
theorem row4_one (l : List UInt8) (i : Nat) : ∀ u ∈ row4 l i, u.oneCell' = true := by
  intro u hu; simp [row4] at hu; rcases hu with h | h | h | h <;> subst h <;> rfl
theorem Tryz.info73 : (Tryz.prog.info? 73).map (fun i => (i.zero, i.size, i.bytes)) = some (some (.agg #[.int .i64 0, .int .i64 0, .int .i64 0, .int .i64 0]), 4, 32) := by kernel_rfl
theorem own4_at {w : World} {base n : Nat} {v : Value} {xs : List Value} (h : w.ownsRow base 73 4 v n xs) (hn : 0 < n) : ∃ g c, v = .slice (some ⟨g, 0, none⟩) n c ∧ g < w.heap.size ∧ ∀ j u, xs[j]? = some u → w.cell? ⟨g, j, none⟩ = some u := by
  obtain ⟨h1, h2⟩ := h
  rcases h2 with ⟨_, h0⟩ | ⟨g, cap, cur, hv, _, hg, _, _, hs, ht⟩
  · omega
  · refine ⟨g, cap, hv, lt_of_block hg, fun j u hu => ?_⟩
    rw [cell_of_row w g j cur 73 (0, 0) hg]
    rw [← ht, List.getElem?_take] at hu
    split at hu
    · simpa using hu
    · cases hu
theorem own4_set {w : World} {base e size n : Nat} {v : Value} {xs : List Value} (h : w.ownsRow base e size v n xs) (p : Addr) (u : Value) (hne : ∀ q, v.ownBlock = some q → q ≠ p.block) : (w.setCell p u).ownsRow base e size v n xs := by
  obtain ⟨h1, h2⟩ := h
  refine ⟨h1, ?_⟩
  rcases h2 with h | ⟨g, cap, cur, hv, hb, hg, h3⟩
  · exact .inl h
  · exact .inr ⟨g, cap, cur, hv, hb, (Below.heap_setCell _ _ _ _ (hne g (by rw [hv]; rfl))).trans hg, h3⟩
theorem new4 (w : World) (o : Obj) (a b c d : Value) (j : Nat) (u : Value) (h : [a, b, c, d][j]? = some u) : ((w.alloc o).alloc (.cells #[a, b, c, d] 73)).cell? ((⟨w.heap.size + 1, 0, none⟩ : Addr).add j) = some u := by
  have h1 : Blk ((w.alloc o).alloc (.cells #[a, b, c, d] 73)) (w.heap.size + 1) #[a, b, c, d] 73 := Blk.mk' (by simp) rfl
  exact vals_cells (l := [a, b, c, d]) (o := 0) (fun i u hu => by rw [Nat.zero_add, h1.cell i]; simpa using hu) j u h
/-- What a round of the filling leaves. -/
structure Fill (s : ByteArray) (w0 w : World) (N PB BB k : Nat) (v : Value) : Prop where
  below : Below w0.heap.size w0 w
  blk : Blk w PB #[v] 74
  own : w.ownsRow N 73 4 v (k + 1) (tabL s.data.toList (k + 1))
  ne : ∀ q, v.ownBlock = some q → q ≠ PB ∧ q ≠ BB
  bytes : ∀ j (hj : j < s.size), w.cell? ⟨BB, j, none⟩ = some (.int .u8 s[j].toNat)
  size : N + 3 ≤ w.heap.size
theorem Fill.next {s : ByteArray} {w0 w w' : World} {N PB BB k g c g' c' : Nat} {o1 o2 : Obj} (h : Fill s w0 w N PB BB k (.slice (some ⟨g, 0, none⟩) (k + 1) c)) (hN : w0.heap.size ≤ N) (hP : N + 1 = PB) (hB : N + 2 = BB)
    (hown : w'.ownsRow N 73 4 (.slice (some ⟨g', 0, none⟩) (k + 1 + 1) c') (k + 1 + 1) (tabL s.data.toList (k + 1) ++ row4 s.data.toList (k + 1)))
    (hg : ((w.alloc o1).alloc o2).grownBy w' (Value.slice (some ⟨g, 0, none⟩) (k + 1) c).ownBlock) (hw : (Value.slice (some ⟨g', 0, none⟩) (k + 1 + 1) c').ownBlock = (Value.slice (some ⟨g, 0, none⟩) (k + 1) c).ownBlock ∨ (Value.slice (some ⟨g', 0, none⟩) (k + 1 + 1) c').ownBlock = some (w.heap.size + 1 + 1)) :
    Fill s w0 (w'.setCell ⟨PB, 0, none⟩ (.slice (some ⟨g', 0, none⟩) (k + 1 + 1) c')) N PB BB (k + 1) (.slice (some ⟨g', 0, none⟩) (k + 1 + 1) c') := by
  have hsz := h.size
  have hne := h.ne g rfl
  have hgl := (h.own.lt g rfl).1
  have h2 : Below w0.heap.size w0 ((w.alloc o1).alloc o2) := (h.below.alloc h.below.size _).alloc (Nat.le_trans h.below.size (by simp)) _
  have h3 : Below w0.heap.size w0 w' := h2.grown hg h2.size (fun q hq => by simp [Value.ownBlock] at hq; omega)
  have hV2 : Blk w' PB #[.slice (some ⟨g, 0, none⟩) (k + 1) c] 74 := (hg.block PB (by simp; omega) (fun e => by simp [Value.ownBlock] at e; omega)).trans ((h.blk.alloc _).alloc _)
  have hne2 : g' ≠ PB ∧ g' ≠ BB := by
    rcases hw with hw | hw
    · simp [Value.ownBlock] at hw; omega
    · simp [Value.ownBlock] at hw; omega
  refine ⟨h3.setCell (by show w0.heap.size ≤ PB; omega) _, hV2.set 0 _, ?_, fun q hq => by simp [Value.ownBlock] at hq; omega, fun j hj => ?_, ?_⟩
  · rw [tabL_succ]
    exact own4_set hown _ _ (fun q hq => by simp [Value.ownBlock] at hq; show q ≠ PB; omega)
  · rw [World.cell?_of_block (Below.heap_setCell _ _ _ _ (by show BB ≠ PB; omega)), World.cell?_of_block (hg.block BB (by simp; omega) (fun e => by simp [Value.ownBlock] at e; omega))]
    exact ((((Below.refl _ w).alloc (Nat.le_refl _) o1).alloc (by simp) o2).cell (p := ⟨BB, j, none⟩) (show BB < w.heap.size by omega)).trans (h.bytes j hj)
  · have := hg.size
    simp at this ⊢; omega
/-- What the program returns for a word. -/
def abV : Option (Nat × Nat) → Value
  | some x => .tuple #[.int .i64 x.1, .int .i64 x.2, .int .i64 0]
  | none => .tuple #[.int .i64 0, .int .i64 0, .int .i64 6]
set_option maxRecDepth 10000 in
set_option maxHeartbeats 4000000 in
theorem Abelian_yes (s : ByteArray) (w : World) (hw : wordB s.data.toList = true) :
    Calls Tryz.prog 16 #[.string s] w fun e w' => e = .returned (abV (ab s.data.toList)) ∧ Below w.heap.size w w' := by
  have HW := hid (isWord_any s w)
  rw [hw] at HW
  have hlen : s.size ≤ 120 := by rw [wordB] at hw; simp at hw; exact hw.1
  have hov : overB 4 s.data.toList = true := by rw [wordB] at hw; simp at hw; exact hw.2
  have HOV := hid hov
  have hcv := run_bytesW (P := Tryz.prog) 9 71 5 s Tryz.underlying9 Tryz.underlying71 Tryz.underlying5
  clear hw hov
  go_enter Tryz.func16, Tryz.ntmps16
  go_wp2_with fail
  refine HW.out.mono ?_
  rintro e w1 ⟨rfl, hb⟩
  go_wp2_with fail
  clear hcv
  obtain ⟨N, hN⟩ : ∃ N, N = w1.heap.size := ⟨_, rfl⟩
  have hbN : w.heap.size ≤ N := by have := hb.size; omega
  obtain ⟨PB, hPB⟩ : ∃ PB, PB = w1.heap.size + 1 := ⟨_, rfl⟩
  obtain ⟨BB, hBB⟩ : ∃ BB, BB = w1.heap.size + 1 + 1 := ⟨_, rfl⟩
  rw [← hBB, ← hPB]
  go_loopw [20] (fun i wr => ∃ (k : Nat) (v : Value), k ≤ s.size ∧ i = .int .i64 k ∧ Hid (Fill s w wr N PB BB k v)) (fun i _ => s.size - (intOf i).toNat)
  case atStart =>
    subst hN hPB hBB
    refine ⟨0, .slice (some ⟨w1.heap.size, 0, none⟩) 1 1, Nat.zero_le _, rfl, ⟨bytesW_below _ _ ((hb.alloc hb.size _).alloc (Nat.le_trans hb.size (by simp)) _) (Nat.le_trans hb.size (by simp; omega)), ?_, ?_, ?_, ?_, by rw [bytesW_size]; simp⟩⟩
    · exact (Blk.mk' (by simp) rfl).below (B := w1.heap.size + 2) (bytesW_below _ _ (Below.refl _ _) (by simp)) (by omega)
    · refine ⟨by rw [tabL_len], .inr ⟨w1.heap.size, 1, _, rfl, Nat.le_refl _, (((Blk.new w1 _ _).alloc _).below (B := w1.heap.size + 2) (bytesW_below _ _ (Below.refl _ _) (by simp)) (by omega)), by omega, by decide, rfl, ?_⟩⟩
      simp [tabL, row4, cn]
    · intro q hq; simp [Value.ownBlock] at hq; omega
    · intro j hj
      have := bytesW_cell 5 ((w1.alloc (.cells #[.int .i64 0, .int .i64 0, .int .i64 0, .int .i64 0] 73)).alloc (.cells #[.slice (some ⟨w1.heap.size, 0, none⟩) 1 1] 74)) s j hj
      simpa using this
  case round =>
    obtain ⟨k, v, hk, rfl, HFL⟩ := hrel
    by_cases hlt : k < s.size
    · have hl := overB_mem HOV.out (byte_mem s k hlt)
      have hq := HFL.out.bytes k hlt
      have hvf := HFL.out.blk.free 0
      have hsz := HFL.out.size
      have p1 : PB < wr.heap.size := by omega
      have p2 : BB < wr.heap.size := by omega
      have HNB := hid (And.intro hbN (show N + 1 = PB ∧ N + 2 = BB by omega))
      obtain ⟨g, c, rfl, hg, hc⟩ := own4_at HFL.out.own (by omega)
      have hv0 : wr.cell? ⟨PB, 0, none⟩ = some (.slice (some ⟨g, 0, none⟩) (k + 1) c) := HFL.out.blk.cell 0
      have c0 := hc (k * 4) _ (tabL_get s.data.toList (k + 1) k 0 (by omega) (by omega))
      have c1 := hc (k * 4 + 1) _ (tabL_get s.data.toList (k + 1) k 1 (by omega) (by omega))
      have c2 := hc (k * 4 + 2) _ (tabL_get s.data.toList (k + 1) k 2 (by omega) (by omega))
      have c3 := hc (k * 4 + 3) _ (tabL_get s.data.toList (k + 1) k 3 (by omega) (by omega))
      have hrow : ∀ j, cn (s.data.toList.take (k + 1)) j = cn (s.data.toList.take k) j + if s[k].toNat = 97 + j then 1 else 0 := fun j => by rw [take_succ_bytes s k hlt, cn_snoc]
      have hcl : ∀ j, cn (s.data.toList.take k) j ≤ 120 := fun j => Nat.le_trans (cn_le _ _) (by rw [List.length_take]; omega)
      have l0 := hcl 0
      have l1 := hcl 1
      have l2 := hcl 2
      have l3 := hcl 3
      have hr4 : row4 s.data.toList (k + 1) = [.int .i64 (cn (s.data.toList.take (k + 1)) 0), .int .i64 (cn (s.data.toList.take (k + 1)) 1), .int .i64 (cn (s.data.toList.take (k + 1)) 2), .int .i64 (cn (s.data.toList.take (k + 1)) 3)] := rfl
      rw [hrow, hrow, hrow, hrow] at hr4
      generalize cn (s.data.toList.take k) 0 = X0 at *
      generalize cn (s.data.toList.take k) 1 = X1 at *
      generalize cn (s.data.toList.take k) 2 = X2 at *
      generalize cn (s.data.toList.take k) 3 = X3 at *
      have HR4 := hid hr4
      obtain ⟨B8, hB8⟩ : ∃ B8, B8 = s[k].toNat := ⟨_, rfl⟩
      rw [← hB8] at hl hq HR4
      clear hN hPB hBB hr4 hc hrow hcl hB8
      rcases (show B8 = 97 ∨ B8 = 98 ∨ B8 = 99 ∨ B8 = 100 by omega) with h | h | h | h
      · subst h
        have hq1 : wr.cell? ⟨BB, k, none⟩ = some (.int .u8 97) := hq
        clear hq hl
        have HW1 := hid (show row4 s.data.toList (k + 1) = [.int .i64 ((X0 : Int) + 1), .int .i64 ((X1 : Int)), .int .i64 ((X2 : Int)), .int .i64 ((X3 : Int))] by rw [HR4.out]; simp)
        clear HR4
        go_wp2_with (at_builtin; go_must (refine wpList_appN _ rfl (.tmp 36) (.tmp 38) 74 rfl N 73 (.agg #[.int .i64 0, .int .i64 0, .int .i64 0, .int .i64 0]) 4 32 Tryz.underlying74 Tryz.info73 rfl (by omega) _ (k + 1) _ rfl ((HFL.out.own.alloc _).alloc _) ⟨wr.heap.size + 1, 0, none⟩ 1 1 (row4 s.data.toList (k + 1)) rfl rfl ?_ (row4_one _ _) (by omega) (by omega) (by simp; omega) (by omega) ?_))
        · rw [HW1.out]
          intro j u hu
          exact new4 _ _ _ _ _ _ j u hu
        · intro v' w' hown hgrow hwh
          obtain ⟨g', c', rfl, hg', -⟩ := own4_at hown (by omega)
          have hne := HFL.out.ne g rfl
          have HNX := hid (HFL.out.next HNB.out.1 HNB.out.2.1 HNB.out.2.2 hown hgrow hwh)
          have hV2 : Blk w' PB #[.slice (some ⟨g, 0, none⟩) (k + 1) c] 74 := (hgrow.block PB (by simp; omega) (fun e => by simp [Value.ownBlock] at e; omega)).trans ((HFL.out.blk.alloc _).alloc _)
          have hv2 : w'.cell? ⟨PB, 0, none⟩ = some (.slice (some ⟨g, 0, none⟩) (k + 1) c) := hV2.cell 0
          have hvf2 := hV2.free 0
          clear hwh hgrow hown hV2 hv0 hvf c0 c1 c2 c3 hne
          go_wp2_with fail
          exact ⟨⟨k + 1, _, by omega, by go_num, HNX⟩, by simp [intOf]; omega⟩
      · subst h
        have hq1 : wr.cell? ⟨BB, k, none⟩ = some (.int .u8 98) := hq
        clear hq hl
        have HW1 := hid (show row4 s.data.toList (k + 1) = [.int .i64 ((X0 : Int)), .int .i64 ((X1 : Int) + 1), .int .i64 ((X2 : Int)), .int .i64 ((X3 : Int))] by rw [HR4.out]; simp)
        clear HR4
        go_wp2_with (at_builtin; go_must (refine wpList_appN _ rfl (.tmp 36) (.tmp 38) 74 rfl N 73 (.agg #[.int .i64 0, .int .i64 0, .int .i64 0, .int .i64 0]) 4 32 Tryz.underlying74 Tryz.info73 rfl (by omega) _ (k + 1) _ rfl ((HFL.out.own.alloc _).alloc _) ⟨wr.heap.size + 1, 0, none⟩ 1 1 (row4 s.data.toList (k + 1)) rfl rfl ?_ (row4_one _ _) (by omega) (by omega) (by simp; omega) (by omega) ?_))
        · rw [HW1.out]
          intro j u hu
          exact new4 _ _ _ _ _ _ j u hu
        · intro v' w' hown hgrow hwh
          obtain ⟨g', c', rfl, hg', -⟩ := own4_at hown (by omega)
          have hne := HFL.out.ne g rfl
          have HNX := hid (HFL.out.next HNB.out.1 HNB.out.2.1 HNB.out.2.2 hown hgrow hwh)
          have hV2 : Blk w' PB #[.slice (some ⟨g, 0, none⟩) (k + 1) c] 74 := (hgrow.block PB (by simp; omega) (fun e => by simp [Value.ownBlock] at e; omega)).trans ((HFL.out.blk.alloc _).alloc _)
          have hv2 : w'.cell? ⟨PB, 0, none⟩ = some (.slice (some ⟨g, 0, none⟩) (k + 1) c) := hV2.cell 0
          have hvf2 := hV2.free 0
          clear hwh hgrow hown hV2 hv0 hvf c0 c1 c2 c3 hne
          go_wp2_with fail
          exact ⟨⟨k + 1, _, by omega, by go_num, HNX⟩, by simp [intOf]; omega⟩
      · subst h
        have hq1 : wr.cell? ⟨BB, k, none⟩ = some (.int .u8 99) := hq
        clear hq hl
        have HW1 := hid (show row4 s.data.toList (k + 1) = [.int .i64 ((X0 : Int)), .int .i64 ((X1 : Int)), .int .i64 ((X2 : Int) + 1), .int .i64 ((X3 : Int))] by rw [HR4.out]; simp)
        clear HR4
        go_wp2_with (at_builtin; go_must (refine wpList_appN _ rfl (.tmp 36) (.tmp 38) 74 rfl N 73 (.agg #[.int .i64 0, .int .i64 0, .int .i64 0, .int .i64 0]) 4 32 Tryz.underlying74 Tryz.info73 rfl (by omega) _ (k + 1) _ rfl ((HFL.out.own.alloc _).alloc _) ⟨wr.heap.size + 1, 0, none⟩ 1 1 (row4 s.data.toList (k + 1)) rfl rfl ?_ (row4_one _ _) (by omega) (by omega) (by simp; omega) (by omega) ?_))
        · rw [HW1.out]
          intro j u hu
          exact new4 _ _ _ _ _ _ j u hu
        · intro v' w' hown hgrow hwh
          obtain ⟨g', c', rfl, hg', -⟩ := own4_at hown (by omega)
          have hne := HFL.out.ne g rfl
          have HNX := hid (HFL.out.next HNB.out.1 HNB.out.2.1 HNB.out.2.2 hown hgrow hwh)
          have hV2 : Blk w' PB #[.slice (some ⟨g, 0, none⟩) (k + 1) c] 74 := (hgrow.block PB (by simp; omega) (fun e => by simp [Value.ownBlock] at e; omega)).trans ((HFL.out.blk.alloc _).alloc _)
          have hv2 : w'.cell? ⟨PB, 0, none⟩ = some (.slice (some ⟨g, 0, none⟩) (k + 1) c) := hV2.cell 0
          have hvf2 := hV2.free 0
          clear hwh hgrow hown hV2 hv0 hvf c0 c1 c2 c3 hne
          go_wp2_with fail
          exact ⟨⟨k + 1, _, by omega, by go_num, HNX⟩, by simp [intOf]; omega⟩
      · subst h
        have hq1 : wr.cell? ⟨BB, k, none⟩ = some (.int .u8 100) := hq
        clear hq hl
        have HW1 := hid (show row4 s.data.toList (k + 1) = [.int .i64 ((X0 : Int)), .int .i64 ((X1 : Int)), .int .i64 ((X2 : Int)), .int .i64 ((X3 : Int) + 1)] by rw [HR4.out]; simp)
        clear HR4
        go_wp2_with (at_builtin; go_must (refine wpList_appN _ rfl (.tmp 36) (.tmp 38) 74 rfl N 73 (.agg #[.int .i64 0, .int .i64 0, .int .i64 0, .int .i64 0]) 4 32 Tryz.underlying74 Tryz.info73 rfl (by omega) _ (k + 1) _ rfl ((HFL.out.own.alloc _).alloc _) ⟨wr.heap.size + 1, 0, none⟩ 1 1 (row4 s.data.toList (k + 1)) rfl rfl ?_ (row4_one _ _) (by omega) (by omega) (by simp; omega) (by omega) ?_))
        · rw [HW1.out]
          intro j u hu
          exact new4 _ _ _ _ _ _ j u hu
        · intro v' w' hown hgrow hwh
          obtain ⟨g', c', rfl, hg', -⟩ := own4_at hown (by omega)
          have hne := HFL.out.ne g rfl
          have HNX := hid (HFL.out.next HNB.out.1 HNB.out.2.1 HNB.out.2.2 hown hgrow hwh)
          have hV2 : Blk w' PB #[.slice (some ⟨g, 0, none⟩) (k + 1) c] 74 := (hgrow.block PB (by simp; omega) (fun e => by simp [Value.ownBlock] at e; omega)).trans ((HFL.out.blk.alloc _).alloc _)
          have hv2 : w'.cell? ⟨PB, 0, none⟩ = some (.slice (some ⟨g, 0, none⟩) (k + 1) c) := hV2.cell 0
          have hvf2 := hV2.free 0
          clear hwh hgrow hown hV2 hv0 hvf c0 c1 c2 c3 hne
          go_wp2_with fail
          exact ⟨⟨k + 1, _, by omega, by go_num, HNX⟩, by simp [intOf]; omega⟩
    · have hk2 : k = s.size := by omega
      subst hk2
      obtain ⟨g, c, rfl, hg, hc⟩ := own4_at HFL.out.own (by omega)
      have hT : Tab s.data.toList wr PB g c := ⟨fun i k hi hk => hc _ _ (tabL_get _ _ i k (by rw [bytes_len] at hi; omega) hk), by rw [bytes_len]; exact HFL.out.blk.cell 0, hg, HFL.out.blk.lt⟩
      have HT := hid hT
      have HB := hid HFL.out.below
      have HP := hid (show w.heap.size ≤ PB by omega)
      have HG := hid (show w.heap.size ≤ g by have := (HFL.out.own.lt g rfl).1; omega)
      have HS := hid (show g < wr.heap.size ∧ PB < wr.heap.size from ⟨hg, HFL.out.blk.lt⟩)
      obtain ⟨w4, hw4⟩ : ∃ w4, w4 = wr := ⟨_, rfl⟩
      rw [← hw4] at HT HB HS ⊢
      have hE := bin84
      have hG := guard84
      have hll : s.data.toList.length = s.size := bytes_len s
      have BW := fun (W : World) (hW : Below w4.heap.size w4 W) (i j : Nat) (hi : i ≤ s.size) (hj : j ≤ s.size) => hid (between_any s.data.toList PB g c i j W (by omega) (HT.out.below hW HS.out.1 HS.out.2) (by omega) (by omega))
      replace BW := hid BW
      have HLL := hid hll
      clear hN hPB hBB hT hc HFL hbN hb hw4 hg hll
      go_wp2_with fail
      go_loopw [44] (fun i wr => ∃ k : Nat, k ≤ s.size ∧ i = .int .i64 k ∧ Below w4.heap.size w4 wr ∧ Hid (ab s.data.toList = abO (s.data.toList.drop k) k)) (fun i _ => s.size - (intOf i).toNat)
      case atStart => exact ⟨0, Nat.zero_le _, rfl, Below.refl _ _, rfl⟩
      case round =>
        obtain ⟨k, hk, rfl, hb, H⟩ := hrel
        by_cases hlt : k < s.size
        · go_wp2_with fail
          go_loopw [11] (fun i wx => ∃ p : Nat, p ≤ s.size + 1 ∧ 1 ≤ p ∧ i = .int .i64 p ∧ Below w4.heap.size w4 wx ∧ Hid (abI (s.data.toList.drop k) 1 = abI (s.data.toList.drop k) p)) (fun i _ => s.size + 1 - (intOf i).toNat)
          case atStart => exact ⟨1, by omega, by omega, rfl, hb, rfl⟩
          case round =>
            obtain ⟨p, hp, hp1, rfl, hb2, H2⟩ := hrel
            by_cases hle : k + 2 * p ≤ s.size
            · have hb2' := hid hb2
              have C1 := BW.out _ hb2 k (k + p) (by omega) (by omega)
              rw [show ((k + p : Nat) : Int) = (k : Int) + p by omega] at C1
              cases he : sameW s.data.toList k p with
              | true =>
                have hfin : ab s.data.toList = some (k, p) := by
                  rw [H.out, abO_some _ _ p]; rw [H2.out, abI_yes _ _ (by rw [List.length_drop, bytes_len]; omega) he]
                have HF := hid hfin
                clear hfin
                go_wp2_with fail
                refine C1.out.mono ?_
                rintro e w5 ⟨rfl, hb5⟩
                have h5 := hb2'.out.trans (hb5.mono hb2'.out.size)
                have C2 := BW.out w5 h5 (k + p) (k + 2 * p) (by omega) (by omega)
                rw [show ((k + p : Nat) : Int) = (k : Int) + p by omega, show ((k + 2 * p : Nat) : Int) = (k : Int) + 2 * p by omega] at C2
                clear hb2 C1 hb5
                go_wp2_with fail
                refine C2.out.mono ?_
                rintro e w6 ⟨rfl, hb6⟩
                have h6 := h5.trans (hb6.mono h5.size)
                clear h5 hb6 C2
                go_wp2_with fail
                refine bodyPost_ret (results_tmp3 rfl _ _ _) rfl ?_
                exact ⟨by rw [HF.out]; rfl, HB.out.trans (h6.mono HB.out.size)⟩
              | false =>
                have hfin : abI (s.data.toList.drop k) 1 = abI (s.data.toList.drop k) (p + 1) := by
                  rw [H2.out, abI_no _ _ (by rw [List.length_drop, bytes_len]; omega) he]
                have HF := hid hfin
                clear hfin
                go_wp2_with fail
                refine C1.out.mono ?_
                rintro e w5 ⟨rfl, hb5⟩
                have h5 := hb2'.out.trans (hb5.mono hb2'.out.size)
                have C2 := BW.out w5 h5 (k + p) (k + 2 * p) (by omega) (by omega)
                rw [show ((k + p : Nat) : Int) = (k : Int) + p by omega, show ((k + 2 * p : Nat) : Int) = (k : Int) + 2 * p by omega] at C2
                clear hb2 C1 hb5
                go_wp2_with fail
                refine C2.out.mono ?_
                rintro e w6 ⟨rfl, hb6⟩
                have h6 := h5.trans (hb6.mono h5.size)
                clear h5 hb6 C2
                go_wp2_with fail
                exact ⟨⟨p + 1, by omega, by omega, by go_num, h6, HF⟩, by simp [intOf]; omega⟩
            · have hfin : ab s.data.toList = abO (s.data.toList.drop (k + 1)) (k + 1) := by
                rw [H.out, abO_none _ _ (by rw [bytes_len]; exact hlt)]
                rw [H2.out, abI_end _ _ (by rw [List.length_drop, bytes_len]; omega)]
              have HF := hid hfin
              clear hfin
              go_wp2_with fail
              exact ⟨⟨k + 1, by omega, by go_num, hb2, HF⟩, by simp [intOf]; omega⟩
        · have hfin : ab s.data.toList = none := by rw [H.out, List.drop_eq_nil_of_le (by rw [bytes_len]; omega)]; rfl
          have HF := hid hfin
          clear hfin
          go_wp2_with fail
          refine bodyPost_ret (results_tmp3 rfl _ _ _) rfl ?_
          exact ⟨by rw [HF.out]; rfl, HB.out.trans (hb.mono HB.out.size)⟩
end

end Go.Proofs.YtkmpdcckgibkhaaGreat.Mk
