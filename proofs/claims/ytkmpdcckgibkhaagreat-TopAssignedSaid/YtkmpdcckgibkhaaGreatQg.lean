/-
  Walks: spanning trees of two vertices.
-/
import Derived.Test.YtkmpdcckgibkhaaGreatQf
namespace Go.Proofs.YtkmpdcckgibkhaaGreat
open Go.RowKit Go.ChangeMaps

/-- What stands during the count: the net's copy, the prime's variable, both lists of parts. -/
def SpB (w : World) (g c b0 b1 : Nat) (P : Int) (W : World) : Prop := NetAt W w.heap.size g c (w.heap.size + 1) ∧ Blk W (w.heap.size + 1) #[.int .i64 P] 3 ∧ Blk W b0 (rowA idR 16) 214 ∧ Blk W b1 (rowA joined01 16) 214 ∧ Below w.heap.size w W ∧ b0 < w.heap.size ∧ b1 < w.heap.size ∧ w.heap.size + 2 ≤ W.heap.size
theorem SpB.below {w W W' : World} {g c b0 b1 D : Nat} {P : Int} (h : SpB w g c b0 b1 P W) (hb : Below D W W') (hD : w.heap.size + 2 ≤ D) : SpB w g c b0 b1 P W' :=
  ⟨h.1.below hb (by omega), h.2.1.below hb (by omega), h.2.2.1.below hb (by have := h.2.2.2.2.2.1; omega), h.2.2.2.1.below hb (by have := h.2.2.2.2.2.2.1; omega), h.2.2.2.2.1.trans (hb.mono (by omega)), h.2.2.2.2.2.1, h.2.2.2.2.2.2.1, Nat.le_trans h.2.2.2.2.2.2.2 hb.size⟩
theorem SpB.sz {w W : World} {g c b0 b1 : Nat} {P : Int} (h : SpB w g c b0 b1 P W) : w.heap.size + 2 ≤ W.heap.size := h.2.2.2.2.2.2.2
theorem SpB.alloc {w W : World} {g c b0 b1 : Nat} {P : Int} (h : SpB w g c b0 b1 P W) (o : Obj) : SpB w g c b0 b1 P (W.alloc o) :=
  h.below ((Below.refl _ W).alloc (Nat.le_refl _) o) h.sz
theorem SpB.start (g c b0 b1 : Nat) (P : Int) (w : World) (hs : Street w g) (B0 : Blk w b0 (rowA idR 16) 214) (B1 : Blk w b1 (rowA joined01 16) 214) :
    SpB w g c b0 b1 P ((w.alloc (.cells #[.int .i64 2, .slice (some ⟨g, 0, none⟩) 1 c] 146)).alloc (.cells #[.int .i64 P] 3)) := by
  have hb := ((Below.refl _ w).alloc (Nat.le_refl _) (.cells #[.int .i64 2, .slice (some ⟨g, 0, none⟩) 1 c] 146)).alloc (by simp) (.cells #[.int .i64 P] 3)
  have bP := Blk.new (w.alloc (.cells #[.int .i64 2, .slice (some ⟨g, 0, none⟩) 1 c] 146)) #[.int .i64 P] 3
  rw [show (w.alloc (.cells #[.int .i64 2, .slice (some ⟨g, 0, none⟩) 1 c] 146)).heap.size = w.heap.size + 1 by simp] at bP
  exact ⟨(NetAt.new g c w hs).below (((Below.refl _ _).alloc (Nat.le_refl _) (.cells #[.int .i64 P] 3))) (by simp), bP, B0.below hb B0.lt, B1.below hb B1.lt, hb, B0.lt, B1.lt, by simp⟩

/-- The map of the parts, as it grows. -/
theorem at_store {w W : World} {g c b0 b1 : Nat} {P : Int} (h : SpB w g c b0 b1 P W) (m : Nat) (hm : w.heap.size + 2 ≤ m) (l : List (Nat × Value)) (hM : MapIs natV W m l) (k n : Nat) (v : Value) (hn : n = l.length) :
    (∀ ty, (Builtin.len_ #[55] ty #[.map (some m)]).run Tryz.prog W = .ok (.int .i64 n) W) ∧ ∃ W', (Instr.mapUpdate 55 (.map (some m)) (.int .i64 (k : Int)) v).run Tryz.prog W = .ok () W' ∧ MapIs natV W' m (put k v l) ∧ SpB w g c b0 b1 P W' := by
  obtain ⟨W', h1, h2, o, ho⟩ := hM.store kt3 Tryz.underlying55 k v
  refine ⟨fun ty => ?_, W', h1, h2, h.below (D := m) (by rw [ho]; exact setBlock_below (Below.refl m W) (Nat.le_refl _) o) hm⟩
  rw [run_len_map (P := Tryz.prog) W 55 ty m _ _ (by kernel_rfl) hM]
  rw [hn]
  simp [ents_len, goInt]
theorem at_look {W : World} (m : Nat) (l : List (Nat × Value)) (hM : MapIs natV W m l) (k : Nat) (c : Bool) :
    (Instr.lookup 55 (.map (some m)) (.int .i64 (k : Int)) c).run Tryz.prog W = .ok (if c then .tuple #[(get k l).getD (.int .i64 0), .bool (get k l).isSome] else (get k l).getD (.int .i64 0)) W :=
  hM.look kt3 Tryz.underlying55 (zero3 W) k c

theorem mk22 (W : World) : (Instr.makeSlice 22 (.int .i64 1) (.int .i64 1)).run Tryz.prog W = .ok (.slice (some ⟨W.heap.size, 0, none⟩) 1 1) (W.alloc (.cells #[.slice none 0 0] 24)) := by kernel_rfl
theorem mk24 (W : World) : (Instr.makeSlice 24 (.int .i64 1) (.int .i64 1)).run Tryz.prog W = .ok (.slice (some ⟨W.heap.size, 0, none⟩) 1 1) (W.alloc (.cells #[.int .i64 0] 3)) := by kernel_rfl

/-- The square's blocks: its size, its list of rows, its variable. -/
def SqB (X : World) (s : Nat) (u : Value) : Prop := Blk X s #[.int .i64 1] 3 ∧ Blk X (s + 1) #[u] 24 ∧ Blk X (s + 1 + 1) #[.slice (some ⟨s + 1, 0, none⟩) 1 1] 22
theorem SqB.below {X Y : World} {s D : Nat} {u : Value} (h : SqB X s u) (hb : Below D X Y) (hD : s + 3 ≤ D) : SqB Y s u :=
  ⟨h.1.below hb (by omega), h.2.1.below hb (by omega), h.2.2.below hb (by omega)⟩
theorem SqB.put {X : World} {s : Nat} {u : Value} (h : SqB X s u) (v : Value) : SqB (X.setCell ⟨s + 1, 0, none⟩ v) s v :=
  ⟨h.1.other _ (by simp) _, h.2.1.set 0 v, h.2.2.other _ (by simp) _⟩
theorem SqB.new (W : World) : SqB (((W.alloc (.cells #[.int .i64 1] 3)).alloc (.cells #[.slice none 0 0] 24)).alloc (.cells #[.slice (some ⟨W.heap.size + 1, 0, none⟩) 1 1] 22)) W.heap.size (.slice none 0 0) :=
  ⟨((Blk.new W _ _).alloc _).alloc _, (Blk.mk' (by simp) rfl : Blk _ (W.heap.size + 1) _ _).alloc _, Blk.mk' (by simp) rfl⟩

set_option maxRecDepth 100000 in
set_option maxHeartbeats 4000000 in
theorem spanning_1 (g c b0 b1 : Nat) (P : Int) (hp : 1 < P) (hp2 : P ≤ 2147483647) (w : World) (hs : Street w g) (B0 : Blk w b0 (rowA idR 16) 214) (B1 : Blk w b1 (rowA joined01 16) 214) :
    Calls Tryz.prog 130 #[netV g c, .pointer (some ⟨b0, 0, none⟩), .pointer (some ⟨b1, 0, none⟩), .int .i64 5, .int .i64 P] w (RetB (.int .i64 1) w) := by
  have H0 := SpB.start g c b0 b1 P w hs B0 B1
  have hmm := @run_makeMap Tryz.prog
  have hm22 := mk22
  have hm24 := mk24
  rw [show netV g c = .agg #[.int .i64 2, .slice (some ⟨g, 0, none⟩) 1 c] from rfl]
  clear B0 B1 hs
  go_enter Tryz.func130, Tryz.ntmps130
  go_wp2_with fail
  have hsz : ((w.alloc (.cells #[.int .i64 2, .slice (some ⟨g, 0, none⟩) 1 c] 146)).alloc (.cells #[.int .i64 P] 3)).heap.size = w.heap.size + 2 := by simp
  generalize (w.alloc (.cells #[.int .i64 2, .slice (some ⟨g, 0, none⟩) 1 c] 146)).alloc (.cells #[.int .i64 P] 3) = W at *
  have n0 := H0.1.n0
  go_wp2_with fail
  refine wp_loop_rounds 3 ?_
  rw [rounds_succ]
  go_wp2_with fail
  have H1 := H0.alloc (.map #[] 0)
  have hM1 : MapIs natV (W.alloc (.map #[] 0)) (w.heap.size + 2) [] := hsz ▸ MapIs.made W
  have hsz1 : (W.alloc (.map #[] 0)).heap.size = w.heap.size + 3 := by simp [hsz]
  clear n0 H0 hsz
  generalize W.alloc (.map #[] 0) = W1 at *
  obtain ⟨L1, W2, U1, hM2, H2⟩ := at_store H1 _ (Nat.le_refl _) _ hM1 0 0 (.int .i64 0) rfl
  obtain ⟨L2, W3, U2, hM3, H3⟩ := at_store H2 _ (Nat.le_refl _) _ hM2 1 1 (.int .i64 1) rfl
  have L1' : ∀ ty, (Builtin.len_ #[55] ty #[.map (some (w.heap.size + 2))]).run Tryz.prog W1 = .ok (.int .i64 0) W1 := L1
  have L2' : ∀ ty, (Builtin.len_ #[55] ty #[.map (some (w.heap.size + 2))]).run Tryz.prog W2 = .ok (.int .i64 1) W2 := L2
  have U1' : (Instr.mapUpdate 55 (.map (some (w.heap.size + 2))) (.int .i64 0) (.int .i64 0)).run Tryz.prog W1 = .ok () W2 := U1
  have U2' : (Instr.mapUpdate 55 (.map (some (w.heap.size + 2))) (.int .i64 1) (.int .i64 1)).run Tryz.prog W2 = .ok () W3 := U2
  have L3' : ∀ ty, (Builtin.len_ #[55] ty #[.map (some (w.heap.size + 2))]).run Tryz.prog W3 = .ok (.int .i64 2) W3 := (at_store H3 _ (Nat.le_refl _) _ hM3 0 2 (.int .i64 0) rfl).1
  clear L1 L2 U1 U2
  refine wp_loop_rounds 3 ?_
  rw [rounds_succ]
  go_wp2_with fail
  refine (of_two b0 idR 0 0 (by omega) (by omega) rfl rfl _ H1.2.2.1).mono ?_
  rintro e w1 ⟨rfl, rfl⟩
  go_wp2_with fail
  refine (of_two b1 joined01 0 0 (by omega) (by omega) rfl rfl _ H1.2.2.2.1).mono ?_
  rintro e w1 ⟨rfl, rfl⟩
  go_wp2_with fail
  rw [rounds_succ]
  go_wp2_with fail
  refine (of_two b0 idR 1 1 (by omega) (by omega) rfl rfl _ H2.2.2.1).mono ?_
  rintro e w1 ⟨rfl, rfl⟩
  go_wp2_with fail
  refine (of_two b1 joined01 1 0 (by omega) (by omega) rfl rfl _ H2.2.2.2.1).mono ?_
  rintro e w1 ⟨rfl, rfl⟩
  go_wp2_with fail
  rw [rounds_succ]
  go_wp2_with fail
  have H4 := ((H3.alloc (.cells #[.int .i64 1] 3)).alloc (.cells #[.slice none 0 0] 24)).alloc (.cells #[.slice (some ⟨W3.heap.size + 1, 0, none⟩) 1 1] 22)
  have hM4 := ((hM3.alloc (.cells #[.int .i64 1] 3)).alloc (.cells #[.slice none 0 0] 24)).alloc (.cells #[.slice (some ⟨W3.heap.size + 1, 0, none⟩) 1 1] 22)
  have Q4 := SqB.new W3
  have hsz4 : (((W3.alloc (.cells #[.int .i64 1] 3)).alloc (.cells #[.slice none 0 0] 24)).alloc (.cells #[.slice (some ⟨W3.heap.size + 1, 0, none⟩) 1 1] 22)).heap.size = W3.heap.size + 3 := by simp
  have h3s := H3.sz
  have h3m := hM3.lt
  generalize ((W3.alloc (.cells #[.int .i64 1] 3)).alloc (.cells #[.slice none 0 0] 24)).alloc (.cells #[.slice (some ⟨W3.heap.size + 1, 0, none⟩) 1 1] 22) = X at *
  generalize hs3 : W3.heap.size = s3 at *
  clear L1' L2' L3' U1' U2' H1 H2 H3 hM1 hM2 hM3 hsz1
  have x0 := Q4.1.cell 0
  have x1 := Q4.2.1.cell 0
  have x2 := Q4.2.2.cell 0
  have z1 := Q4.2.1.free 0
  have HSZ := hid hsz4
  have H5 := (H4.alloc (.cells #[.int .i64 0] 3))
  have hM5 := hM4.alloc (.cells #[.int .i64 0] 3)
  have Q5 := Q4.below ((Below.refl _ X).alloc (Nat.le_refl _) (.cells #[.int .i64 0] 3)) (by omega)
  have R5 := Blk.new X #[.int .i64 0] 3
  have y0 := Q5.1.cell 0
  have y1 := Q5.2.1.cell 0
  have y2 := Q5.2.2.cell 0
  have yz := Q5.2.1.free 0
  clear hsz4
  go_wp2_with fail
  refine wp_loop_rounds 2 ?_
  rw [rounds_succ]
  go_wp2_with fail
  go_region
  have hsz4 := HSZ.out
  have H6 := H5.below ((Below.refl (s3 + 1) (X.alloc (.cells #[.int .i64 0] 3))).setCell (Nat.le_refl _) (.slice (some ⟨X.heap.size, 0, none⟩) 1 1) (p := ⟨s3 + 1, 0, none⟩)).drew (by omega)
  have hM6 := (hM5.setCell ⟨s3 + 1, 0, none⟩ (by show _ ≠ s3 + 1; omega) (.slice (some ⟨X.heap.size, 0, none⟩) 1 1)).drew
  have Q6 : SqB ((X.alloc (.cells #[.int .i64 0] 3)).setCell ⟨s3 + 1, 0, none⟩ (.slice (some ⟨X.heap.size, 0, none⟩) 1 1)).drew s3 (.slice (some ⟨X.heap.size, 0, none⟩) 1 1) := Q5.put _
  have R6 := (R5.other ⟨s3 + 1, 0, none⟩ (by show _ ≠ s3 + 1; omega) (.slice (some ⟨X.heap.size, 0, none⟩) 1 1)).drew
  have hsz6 : ((X.alloc (.cells #[.int .i64 0] 3)).setCell ⟨s3 + 1, 0, none⟩ (.slice (some ⟨X.heap.size, 0, none⟩) 1 1)).drew.heap.size = s3 + 4 := by simp; omega
  generalize hY : ((X.alloc (.cells #[.int .i64 0] 3)).setCell ⟨s3 + 1, 0, none⟩ (.slice (some ⟨X.heap.size, 0, none⟩) 1 1)).drew = Y at *
  rw [hsz4] at Q6 R6
  clear y0 y1 y2 yz x0 x1 x2 z1 H4 H5 hM4 hM5 Q4 Q5 R5 hY
  clear HSZ hsz4
  have hmf : ∀ (fn : Fn) (first cap : Array Value) (w : World), (Instr.makeFunc fn first cap).run Tryz.prog w = .ok (.func fn first cap) w := fun _ _ _ _ => rfl
  have n1 := H6.1.n1
  have s0 := H6.1.s0
  have s1 := H6.1.s1
  have s2 := H6.1.s2
  have y0 := Q6.1.cell 0
  have y1 := Q6.2.1.cell 0
  have y2 := Q6.2.2.cell 0
  have yz := Q6.2.1.free 0
  go_wp2_with fail
  rw [rounds_succ]
  go_wp2_with fail
  refine wp_loop_rounds 2 ?_
  rw [rounds_succ]
  have H7 := H6.alloc (.cells #[.int .i64 0, .int .i64 1, .int .i64 5] 109)
  have hM7 := hM6.alloc (.cells #[.int .i64 0, .int .i64 1, .int .i64 5] 109)
  have Q7 := Q6.below ((Below.refl _ Y).alloc (Nat.le_refl _) (.cells #[.int .i64 0, .int .i64 1, .int .i64 5] 109)) (by omega)
  have R7 := R6.alloc (.cells #[.int .i64 0, .int .i64 1, .int .i64 5] 109)
  have V7 := Blk.new Y #[.int .i64 0, .int .i64 1, .int .i64 5] 109
  rw [hsz6] at V7
  have LK0 : (Instr.lookup 55 (.map (some (w.heap.size + 2))) (.int .i64 0) true).run Tryz.prog (Y.alloc (.cells #[.int .i64 0, .int .i64 1, .int .i64 5] 109)) = .ok (.tuple #[.int .i64 0, .bool true]) _ := at_look _ _ hM7 0 true
  have LK1 : (Instr.lookup 55 (.map (some (w.heap.size + 2))) (.int .i64 1) false).run Tryz.prog (Y.alloc (.cells #[.int .i64 0, .int .i64 1, .int .i64 5] 109)) = .ok (.int .i64 1) _ := at_look _ _ hM7 1 false
  have hsz7 : (Y.alloc (.cells #[.int .i64 0, .int .i64 1, .int .i64 5] 109)).heap.size = s3 + 5 := by simp [hsz6]
  go_wp2_with fail
  generalize Y.alloc (.cells #[.int .i64 0, .int .i64 1, .int .i64 5] 109) = Z at *
  clear H6 hM6 Q6 R6 hsz6 n1 s0 s1 s2 y0 y1 y2 yz
  have v0 := V7.cell 0
  have v1 := V7.cell 1
  have v2 := V7.cell 2
  refine (of_two b0 idR 0 0 (by omega) (by omega) rfl rfl _ H7.2.2.1).mono ?_
  rintro e w1 ⟨rfl, rfl⟩
  go_wp2_with fail
  refine (of_two b0 idR 1 1 (by omega) (by omega) rfl rfl _ H7.2.2.1).mono ?_
  rintro e w1 ⟨rfl, rfl⟩
  go_wp2_with fail
  refine (add00 P hp hp2 s3 (s3 + 1 + 1) (w.heap.size + 1) (s3 + 1) (s3 + 3) 1 1 _ (Q7.1.cell 0) (Q7.2.2.cell 0) (Q7.2.1.cell 0) (R7.cell 0) (R7.free 0) (H7.2.1.cell 0)).mono ?_
  rintro e w1 ⟨rfl, rfl⟩
  have H8 := H7.below ((Below.refl (s3 + 3) Z).setCell (Nat.le_refl _) (.int .i64 1) (p := ⟨s3 + 3, 0, none⟩)).drew (by omega)
  have Q8 := Q7.below ((Below.refl (s3 + 3) Z).setCell (Nat.le_refl _) (.int .i64 1) (p := ⟨s3 + 3, 0, none⟩)).drew (by omega)
  have R8 := (R7.set 0 (.int .i64 1)).drew
  have hsz8 : (Z.setCell ⟨s3 + 3, 0, none⟩ (.int .i64 1)).drew.heap.size = s3 + 5 := by simp [hsz7]
  go_wp2_with fail
  generalize (Z.setCell ⟨s3 + 3, 0, none⟩ (.int .i64 1)).drew = V at *
  clear H7 hM7 Q7 R7 V7 LK0 LK1 v0 v1 v2
  refine (addNo 1 1 1 (by simp) _ _ _ _ (Q8.1.cell 0)).mono ?_
  rintro e w1 ⟨rfl, rfl⟩
  go_wp2_with fail
  refine (addNo 0 1 (-1) (by simp) _ _ _ _ (Q8.1.cell 0)).mono ?_
  rintro e w1 ⟨rfl, rfl⟩
  go_wp2_with fail
  refine (addNo 1 0 (-1) (by simp) _ _ _ _ (Q8.1.cell 0)).mono ?_
  rintro e w1 ⟨rfl, rfl⟩
  go_wp2_with fail
  rw [rounds_succ]
  have n0 := H8.1.n0
  have n1 := H8.1.n1
  have p0 := H8.2.1.cell 0
  have y0 := Q8.1.cell 0
  have y2 := Q8.2.2.cell 0
  have D := hid (show ∀ n, Calls Tryz.prog 151 #[.slice (some ⟨s3 + 1, 0, none⟩) 1 1, .int .i64 P] (V.drewN n) fun e w' => e = .returned (.int .i64 1) ∧ w' = V.drewN n from fun n => (det_1 (s3 + 1) (s3 + 3) 1 1 P (V.drewN n) hp hp2 (Q8.2.1.cell 0) (R8.cell 0)).mono fun e w' h => ⟨h.1, h.2.symm⟩)
  have m1 : Int.tmod 1 P = 1 := by rw [Int.tmod_eq_emod_of_nonneg (by omega)]; exact Int.emod_eq_of_lt (by omega) hp
  have hP0 : ¬ P = 0 := by omega
  go_wp2_with fail
  go_quiet (exact Calls.quiet_of_same (D.out _))
  have H9 : SpB w g c b0 b1 P (V.drewN nq) := H8.below (D := V.heap.size) ⟨rfl, rfl, rfl, Nat.le_refl _, fun _ _ => rfl⟩ (by omega)
  have hsz9 : (V.drewN nq).heap.size = s3 + 5 := hsz8
  clear H8 Q8 R8 hsz8 n0 n1 p0 y0 y2 D
  generalize V.drewN nq = U at *
  have n0 := H9.1.n0
  go_wp2_with fail
  rw [rounds_succ]
  have HA := H9.alloc (.map #[] 0)
  have hMA : MapIs natV (U.alloc (.map #[] 0)) (s3 + 5) [] := hsz9 ▸ MapIs.made U
  have hszA : (U.alloc (.map #[] 0)).heap.size = s3 + 6 := by simp [hsz9]
  have LA' : ∀ ty, (Builtin.len_ #[55] ty #[.map (some (s3 + 5))]).run Tryz.prog (U.alloc (.map #[] 0)) = .ok (.int .i64 0) (U.alloc (.map #[] 0)) := (at_store HA _ (by omega) _ hMA 0 0 (.int .i64 0) rfl).1
  have nA := HA.1.n0
  go_wp2_with fail
  generalize U.alloc (.map #[] 0) = T at *
  refine wp_loop_rounds 3 ?_
  rw [rounds_succ]
  go_wp2_with fail
  refine (of_two b0 idR 0 0 (by omega) (by omega) rfl rfl _ HA.2.2.1).mono ?_
  rintro e w1 ⟨rfl, rfl⟩
  go_wp2_with fail
  refine (of_two b1 joined01 0 0 (by omega) (by omega) rfl rfl _ HA.2.2.2.1).mono ?_
  rintro e w1 ⟨rfl, rfl⟩
  go_wp2_with fail
  rw [rounds_succ]
  go_wp2_with fail
  refine (of_two b0 idR 1 1 (by omega) (by omega) rfl rfl _ HA.2.2.1).mono ?_
  rintro e w1 ⟨rfl, rfl⟩
  go_wp2_with fail
  refine (of_two b1 joined01 1 0 (by omega) (by omega) rfl rfl _ HA.2.2.2.1).mono ?_
  rintro e w1 ⟨rfl, rfl⟩
  go_wp2_with fail
  rw [rounds_succ]
  go_wp2_with fail
  rw [rounds_succ]
  go_wp2_with fail
  go_ret
  exact ⟨rfl, (HA.alloc _).2.2.2.2.1⟩

end Go.Proofs.YtkmpdcckgibkhaaGreat
