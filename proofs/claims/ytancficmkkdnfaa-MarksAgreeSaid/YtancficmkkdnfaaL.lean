/-
  Walks: Keeps.
-/
import Derived.Test.YtancficmkkdnfaaK
import Derived.Test.YtancficmkkdnfaaLevels
import Derived.Sort.LoopGhostIn
import Derived.Deep.QuietTactic
import Derived.BigQuiet
import Derived.RangeFuncCalls
namespace Go.Proofs.Ytancficmkkdnfaa
open Go.RowKit
attribute [local go_sem] Oper.semAt_some

/-- The boxes of Keeps: its map, its two results. -/
structure KB (b : Nat) (v : Value) (s : ByteArray) (no : Int) (W : World) : Prop where
  l : Blk W b #[v] 44
  r : RB (b + 1) s no W
theorem KB.new (w : World) (v : Value) (s : ByteArray) (no : Int) : KB w.heap.size v s no (((w.alloc (.cells #[v] 44)).alloc (.cells #[.string s] 9)).alloc (.cells #[.int .i64 no] 25)) :=
  ⟨((Blk.new w _ _).alloc _).alloc _, by have := RB.new (w.alloc (.cells #[v] 44)) s no; rwa [World.size_alloc] at this⟩
theorem KB.below {b : Nat} {v : Value} {s : ByteArray} {no : Int} {W W' : World} {B : Nat} (h : KB b v s no W) (hb : Below B W W') (hB : b + 2 < B) : KB b v s no W' :=
  ⟨h.l.below hb (by omega), h.r.below hb (by omega)⟩
theorem KB.facts {b : Nat} {v : Value} {s : ByteArray} {no : Int} {W : World} (h : KB b v s no W) :
    W.cell? ⟨b, 0, none⟩ = some v ∧ W.cell? ⟨b + 1, 0, none⟩ = some (.string s) ∧ W.cell? ⟨b + 1 + 1, 0, none⟩ = some (.int .i64 no) ∧ W.frozen? ⟨b + 1, 0, none⟩ = false ∧ W.frozen? ⟨b + 1 + 1, 0, none⟩ = false := by
  have a := h.l.cell 0
  simp only [List.getElem?_toArray, List.getElem?_cons_zero] at a
  exact ⟨a, h.r.facts⟩
theorem KB.put {b : Nat} {v : Value} {s : ByteArray} {no : Int} {W : World} (h : KB b v s no W) (s' : ByteArray) (no' : Int) : KB b v s' no' ((W.setCell ⟨b + 1, 0, none⟩ (.string s')).setCell ⟨b + 1 + 1, 0, none⟩ (.int .i64 no')) :=
  ⟨(h.l.other _ (by simp) _).other _ (by simp; omega) _, h.r.put s' no'⟩
theorem KB.shut {B b : Nat} {v : Value} {s : ByteArray} {no : Int} {W W' : World} (h : KB b v s no W) (hs : ShutM B W W') : KB b v s no W' := ⟨hs.blk h.l, h.r.shut hs⟩
theorem KB.firm {b : Nat} {v : Value} {s : ByteArray} {no : Int} {W W' : World} {l : Nat} (h : KB b v s no W) (hl : b + 2 < l) (hk : ∀ k, k < W.heap.size → k ≠ l → W'.heap[k]? = W.heap[k]?) : KB b v s no W' :=
  ⟨(hk _ h.l.lt (by omega)).trans h.l, h.r.firm (by omega) hk⟩

/-- The marks and the boxes. -/
structure MK (l : Nat) (ds : List Deferred) (v : Value) (s : ByteArray) (no : Int) (w W : World) : Prop where
  kb : KB w.heap.size v s no W
  marks : MarksOk (w.heap.size + 3) ds W
  lt : ∀ D, { target := .collected D, args := #[] } ∈ ds → D < l
  nl : w.heap.size + 2 < l
  below : Below w.heap.size w W
theorem MK.size {l : Nat} {ds : List Deferred} {v : Value} {s : ByteArray} {no : Int} {w A : World} (h : MK l ds v s no w A) : w.heap.size + 2 < A.heap.size := h.kb.r.e.lt
theorem MK.firm {l : Nat} {ds : List Deferred} {v : Value} {s : ByteArray} {no : Int} {w A C : World} (h : MK l ds v s no w A) (hs : A.heap.size ≤ C.heap.size) (ho : C.os = A.os) (ht : C.tape = A.tape) (hp : C.output = A.output) (hk : ∀ k, k < A.heap.size → k ≠ l → C.heap[k]? = A.heap[k]?) : MK l ds v s no w C := by
  have hl := h.nl
  refine ⟨h.kb.firm h.nl hk, ?_, h.lt, h.nl, h.below.trans ⟨ho, ht, hp, hs, fun k hkB => hk k (by have := h.below.size; omega) (by omega)⟩⟩
  obtain ⟨Ds, h1, h2, h3⟩ := h.marks
  refine ⟨Ds, h1, h2, fun D hD => ?_⟩
  obtain ⟨a, b, c⟩ := h3 D hD
  have := h.lt D (by rw [h1]; exact List.mem_map.2 ⟨D, hD, rfl⟩)
  exact ⟨a, by omega, (hk D b (by omega)).trans c⟩
theorem MK.step {l : Nat} {ds : List Deferred} {v : Value} {s : ByteArray} {no : Int} {w A C : World} (h : MK l ds v s no w A) (hb : Below A.heap.size A C) : MK l ds v s no w C :=
  ⟨h.kb.below hb h.size, h.marks.keeps hb.size (fun k _ hk _ => hb.block k hk), h.lt, h.nl, h.below.trans (hb.mono h.below.size)⟩
theorem MK.put {l : Nat} {ds : List Deferred} {v : Value} {s : ByteArray} {no : Int} {w A : World} (h : MK l ds v s no w A) (s' : ByteArray) (no' : Int) : MK l ds v s' no' w ((A.setCell ⟨w.heap.size + 1, 0, none⟩ (.string s')).setCell ⟨w.heap.size + 1 + 1, 0, none⟩ (.int .i64 no')) := by
  refine ⟨h.kb.put s' no', h.marks.keeps (by simp [World.setCell]) (fun k hk _ _ => ?_), h.lt, h.nl, (h.below.setCell (by simp) _).setCell (by simp; omega) _⟩
  exact (Below.heap_setCell _ _ _ _ (by simp; omega)).trans (Below.heap_setCell _ _ _ _ (by simp; omega))
theorem MK.cons {l l' D : Nat} {ds : List Deferred} {v : Value} {s : ByteArray} {no : Int} {w A : World} (h : MK l ds v s no w A) (hB : w.heap.size + 3 ≤ D) (hD : A.heap[D]? = some (.deferred (some []))) (hn : ∀ k, { target := .collected k, args := #[] } ∈ ds → k ≠ D) (hl : l ≤ l') (hDl : D < l') : MK l' ({ target := .collected D, args := #[] } :: ds) v s no w A :=
  ⟨h.kb, h.marks.cons hB hD hn, fun k hk => by
    rcases List.mem_cons.1 hk with e | hk
    · cases e; exact hDl
    · have := h.lt k hk; omega, by have := h.nl; omega, h.below⟩
theorem MK.up {l l' : Nat} {ds : List Deferred} {v : Value} {s : ByteArray} {no : Int} {w A : World} (h : MK l ds v s no w A) (hl : l ≤ l') : MK l' ds v s no w A :=
  ⟨h.kb, h.marks, fun D hD => Nat.lt_of_lt_of_le (h.lt D hD) hl, Nat.lt_of_lt_of_le h.nl hl, h.below⟩
/-- Leaving. -/
theorem MK.leave {P : Program} {fn : Func} {tmps : Array Value} {l : Nat} {ds : List Deferred} {v : Value} {s : ByteArray} {no : Int} {w W : World} {R : Ending → World → Prop} (h : MK l ds v s no w W)
    (hres : ∀ w', w'.cell? ⟨w.heap.size + 1, 0, none⟩ = some (.string s) → w'.cell? ⟨w.heap.size + 1 + 1, 0, none⟩ = some (.int .i64 no) → (results fn tmps).run P w' = .ok (.tuple #[.string s, .int .i64 no]) w')
    (hR : ∀ w', Below w.heap.size w w' → R (.returned (.tuple #[.string s, .int .i64 no])) w') : LeavesInM Fence.wide 0 P fn tmps R ds .returning W := by
  refine leaves_marks (v := .tuple #[.string s, .int .i64 no]) ds W h.marks (by have := h.size; omega) (fun w' hs => ?_) (fun w' hs => ?_)
  · obtain ⟨-, r1, r2, -⟩ := (h.kb.shut hs).facts
    exact hres w' r1 r2
  · exact hR w' (h.below.trans (hs.below.mono (by omega)))

/-- What Keeps holds between two words. -/
def KeI (f : List UInt8 → Bool) (l : Nat) (ds : List Deferred) (v : Value) (w : World) (pre : List (List UInt8)) (C : Nat → Prop) (W : World) : Prop :=
  MK l ds v ⟨#[]⟩ 0 w W ∧ C (w.heap.size + 1) ∧ C (w.heap.size + 1 + 1) ∧ (∀ x ∈ pre, f x = false)
theorem KeI_firm (f : List UInt8 → Bool) (l : Nat) (ds : List Deferred) (v : Value) (w : World) : FirmX l (KeI f l ds v w) := by
  rintro pre C A B ⟨h1, h2, h3, h6⟩ hs ho ht hp hk
  exact ⟨h1.firm hs ho ht hp hk, h2, h3, h6⟩
/-- What it holds when a round has returned. -/
def KeX (f : List UInt8 → Bool) (l : Nat) (ds : List Deferred) (v : Value) (w : World) (total : List (List UInt8)) (c : Code) (_pre : List (List UInt8)) (_C : Nat → Prop) (W : World) : Prop :=
  c = .ret ∧ ∃ x, MK l ds v (mkS x) 0 w W ∧ total.find? f = some x
theorem KeX_firm (f : List UInt8 → Bool) (l : Nat) (ds : List Deferred) (v : Value) (w : World) (total : List (List UInt8)) (c : Code) : FirmX l (KeX f l ds v w total c) := by
  rintro pre C A B ⟨h0, x, h1, h5⟩ hs ho ht hp hk
  exact ⟨h0, x, h1.firm hs ho ht hp hk, h5⟩

/-- The first word found, length by length from k on. -/
def firstK (f : List UInt8 → Bool) (n k : Nat) : Option (List UInt8) := (((List.range n).drop k).flatMap lv).find? f
theorem firstK_step (f : List UInt8 → Bool) (n k : Nat) (h : k < n) : firstK f n k = ((lv k).find? f).or (firstK f n (k + 1)) := by
  unfold firstK
  rw [List.drop_eq_getElem_cons (by simpa using h), List.flatMap_cons, List.find?_append, List.getElem_range]
theorem firstK_end (f : List UInt8 → Bool) (n k : Nat) (h : ¬ k < n) : firstK f n k = none := by
  unfold firstK
  rw [List.drop_eq_nil_of_le (by simp; omega)]; rfl

/-- What Keeps returns. -/
def valK (o : Option (List UInt8)) : Value := match o with | some x => .tuple #[.string (mkS x), .int .i64 0] | none => .tuple #[.string ⟨#[]⟩, .int .i64 6]
def RetKeeps (m : List (List UInt8)) (w : World) (e : Ending) (w' : World) : Prop :=
  e = .returned (if mapB m then valK (keepsO m (mostN m)) else .tuple #[.string ⟨#[]⟩, .int .i64 2]) ∧ Below w.heap.size w w'

set_option maxHeartbeats 1000000 in
theorem keeps_no (a : Option Addr) (c : Nat) (m : List (List UInt8)) (w : World) (hm : Strs w a m) (hs : m.length ≤ 1000000) (hs2 : ∀ x ∈ m, x.length ≤ 1000000) (h : mapB m = false) :
    Calls Try.prog 32 #[.slice a m.length c] w fun e w' => e = .returned (.tuple #[.string ⟨#[]⟩, .int .i64 2]) ∧ Below w.heap.size w w' := by
  have hkb := KB.new w (.slice a m.length c) ⟨#[]⟩ 0
  have hbw : Below w.heap.size w (((w.alloc (.cells #[.slice a m.length c] 44)).alloc (.cells #[.string ⟨#[]⟩] 9)).alloc (.cells #[.int .i64 0] 25)) := (((Below.refl _ w).alloc (Nat.le_refl _) _).alloc (by simp) _).alloc (by simp; omega) _
  obtain ⟨q0, q1, q2, f1, f2⟩ := hkb.facts
  have HC := hid (isMap_any a c m _ (hm.below hbw (Nat.le_refl _)) hs hs2)
  rw [h] at HC
  have HKB := hid hkb
  have HBW := hid hbw
  clear hkb hbw hm hs hs2
  go_enter Try.func32, Try.ntmps32
  go_wp2_with fail
  refine HC.out.mono ?_
  rintro e w1 ⟨rfl, hb⟩
  have hkb2 := HKB.out.below hb (by simp)
  obtain ⟨q0, q1, q2, f1, f2⟩ := hkb2.facts
  have HK2 := hid hkb2
  have HB := hid hb
  clear hkb2 hb
  go_wp2
  obtain ⟨-, r1, r2, -⟩ := (HK2.out.put ⟨#[]⟩ 2).facts
  refine bodyPost_ret (v := .tuple #[.string ⟨#[]⟩, .int .i64 2]) (by simp [results, Try.results32, go_sem, r1, r2]) rfl ⟨rfl, ?_⟩
  exact ((HBW.out.trans (HB.out.mono (by simp; omega))).setCell (by simp) _).setCell (by simp; omega) _

theorem at1_pos (l : List UInt8) (h : freeB l = false) : 0 < at1 (sq l) := by
  unfold freeB at h
  unfold at1
  cases hs : sq l with
  | none => rw [hs] at h; exact nomatch h
  | some x => have := sqO_pos _ _ _ hs; simp; omega
theorem box_min (m : List (List UInt8)) (i : Nat) (x : List UInt8) (h : m.getD i [] = x) : l0 m i = x.length := by rw [l0, h]

theorem most_fin : ∀ lo sh : Fin 13, 1 ≤ sh.1 → max (3 : Int) (wrap64 (1 + wrap64 (Int.tdiv (wrap64 (wrap64 (wrap64 ((lo.1 : Int) - 3) + (sh.1 : Int)) - 1)) (sh.1 : Int)))) = ((max 3 (1 + (lo.1 + sh.1 - 4) / sh.1) : Nat) : Int) := by decide +kernel
theorem most_int (lo sh : Nat) (h1 : 1 ≤ sh) (h2 : sh ≤ 12) (h3 : lo ≤ 12) : max (3 : Int) (wrap64 (1 + wrap64 (Int.tdiv (wrap64 (wrap64 (wrap64 ((lo : Int) - 3) + (sh : Int)) - 1)) (sh : Int)))) = ((max 3 (1 + (lo + sh - 4) / sh) : Nat) : Int) :=
  most_fin ⟨lo, by omega⟩ ⟨sh, by omega⟩ h1

set_option maxHeartbeats 4000000 in
theorem keeps_yes (a : Option Addr) (c : Nat) (m : List (List UInt8)) (w : World) (hm : Strs w a m) (h : mapB m = true) :
    Calls Try.prog 32 #[.slice a 3 c] w fun e w' => e = .returned (valK (keepsO m (mostN m))) ∧ Below w.heap.size w w' := by
  obtain ⟨hlen, hall⟩ := map_len h
  obtain ⟨x0, e0, d0, a0, b0, -⟩ := hall 0 (by omega)
  obtain ⟨x1, e1, d1, a1, b1, -⟩ := hall 1 (by omega)
  obtain ⟨x2, e2, d2, a2, b2, -⟩ := hall 2 (by omega)
  obtain ⟨g, o, rfl, hgw, hcell⟩ := hm.at (by omega)
  have c0 := hcell 0 x0 e0
  have c1 := hcell 1 x1 e1
  have c2 := hcell 2 x2 e2
  have hkb := KB.new w (.slice (some ⟨g, o, none⟩) 3 c) ⟨#[]⟩ 0
  have hbw : Below w.heap.size w (((w.alloc (.cells #[.slice (some ⟨g, o, none⟩) 3 c] 44)).alloc (.cells #[.string ⟨#[]⟩] 9)).alloc (.cells #[.int .i64 0] 25)) := (((Below.refl _ w).alloc (Nat.le_refl _) _).alloc (by simp) _).alloc (by simp; omega) _
  obtain ⟨q0, q1, q2, f1, f2⟩ := hkb.facts
  have HC := hid (isMap_any (some ⟨g, o, none⟩) c m _ (hm.below hbw (Nat.le_refl _)) (by omega) (fun x hx => by
    have h3 := List.all_eq_true.1 (by rw [mapB, Bool.and_eq_true] at h; exact h.1) x hx
    rw [imgB, Bool.and_eq_true, Bool.and_eq_true] at h3
    have : x.length ≤ 12 := by simpa using h3.1.2
    omega))
  rw [h, hlen] at HC
  have HKB := hid hkb
  have HBW := hid hbw
  have HMAP := hid h
  have HM := hid hm
  have hL0 := box_min m 0 x0 d0
  have hL1 := box_min m 1 x1 d1
  have hL2 := box_min m 2 x2 d2
  have hmost : mostN m = max 3 (1 + (max (max x0.length x1.length) x2.length + min (min x0.length x1.length) x2.length - 4) / min (min x0.length x1.length) x2.length) := by
    unfold mostN longN shortN; rw [hL0, hL1, hL2]
  obtain ⟨N, hN⟩ : ∃ N, N = mostN m := ⟨_, rfl⟩
  rw [← hN] at hmost ⊢
  have hN10 : N ≤ 10 := by rw [hN]; exact (most_le h).2
  have HN := hid hN
  have HMOST := hid hmost
  have HLL := hid (And.intro (And.intro a0 b0) (And.intro (And.intro a1 b1) (And.intro a2 b2)))
  have HCELL := hid (And.intro c0 (And.intro c1 c2))
  clear hkb hbw hm h hlen hall e0 e1 e2 hcell hL0 hL1 hL2 hN hmost a0 a1 a2 b0 b1 b2 d0 d1 d2 c0 c1 c2
  refine (callsIn_wide (n := 0)).1 (callsIn_of_wp_marks Try.func32 rfl trivial ?_ rfl)
  simp only [Try.ntmps32, List.size_toArray, List.length_cons, List.length_nil, Nat.reduceAdd, Nat.reduceSub, Array.replicate_succ, Array.replicate_zero, List.push_toArray, List.append_toArray, List.nil_append, List.cons_append]
  gi_wp2_with fail
  refine ⟨trivial, rfl, (callsIn_wide.2 HC.out).mono ?_⟩
  rintro e w1 ⟨rfl, hb⟩
  have hkb2 := HKB.out.below hb (by simp)
  obtain ⟨q0, q1, q2, f1, f2⟩ := hkb2.facts
  have hb1 : Below w.heap.size w w1 := HBW.out.trans (hb.mono (by simp; omega))
  have c0 : w1.cell? ⟨g, o, none⟩ = some (.string (mkS x0)) := (hb1.cell (p := ⟨g, o, none⟩) hgw).trans HCELL.out.1
  have c1 := (hb1.cell (p := ⟨g, o + 1, none⟩) hgw).trans HCELL.out.2.1
  have c2 := (hb1.cell (p := ⟨g, o + 2, none⟩) hgw).trans HCELL.out.2.2
  have s0 := mkS_size x0
  have s1 := mkS_size x1
  have s2 := mkS_size x2
  gi_wp2_with fail
  refine wpIn_wide.2 ?_
  go_quiet (fail)
  obtain ⟨sh, hsh⟩ : ∃ sh : Nat, sh = min (min x0.length x1.length) x2.length := ⟨_, rfl⟩
  obtain ⟨lo, hlo⟩ : ∃ lo : Nat, lo = max (max x0.length x1.length) x2.length := ⟨_, rfl⟩
  rw [show (if (x2.length : Int) < (if x1.length < x0.length then (x1.length : Int) else (x0.length : Int)) then (x2.length : Int) else if x1.length < x0.length then (x1.length : Int) else (x0.length : Int)) = (sh : Int) by
    rw [hsh]; split <;> split <;> (try split) <;> omega]
  gi_wp2_with fail
  refine wpIn_wide.2 ?_
  go_quiet (fail)
  rw [show (if (if x0.length < x1.length then (x1.length : Int) else (x0.length : Int)) < (x2.length : Int) then (x2.length : Int) else if x0.length < x1.length then (x1.length : Int) else (x0.length : Int)) = (lo : Int) by
    rw [hlo]; split <;> split <;> (try split) <;> omega]
  have hlls := HLL.out
  have hNE := (most_int lo sh (by omega) (by omega) (by omega)).trans (show ((max 3 (1 + (lo + sh - 4) / sh) : Nat) : Int) = (N : Int) by rw [HMOST.out, hlo, hsh])
  have hz1 : ¬ (sh : Int) = 0 := by omega
  have hz2 : ((sh : Int) == 0) = false := beq_eq_false_iff_ne.2 hz1
  have hz3 : sh ≠ 0 := by omega
  clear hlls hsh hlo
  gi_wp2_with fail
  have hdr : ∀ q, Below w1.heap.size w1 (w1.drewN q) := fun q => below_drewN (Below.refl _ _) q
  have hMK0 : ∀ q, MK (w1.drewN q).heap.size [] (.slice (some ⟨g, o, none⟩) 3 c) ⟨#[]⟩ 0 w (w1.drewN q) := fun q =>
    (⟨hkb2, MarksOk.nil _ _, by simp, hkb2.r.e.lt, hb1⟩ : MK w1.heap.size [] (.slice (some ⟨g, o, none⟩) 3 c) ⟨#[]⟩ 0 w w1).step (hdr q) |>.up (hdr q).size
  have HMK0 := hid hMK0
  clear hMK0 hdr c0 c1 c2 q0 q1 q2 f1 f2 hkb2 hb hb1 hNE s0 s1 s2
  refine wpIn_loop_ghost_k (fun mm a W => ∃ (k : Nat) (ds : List Deferred) (u7 u52 u53 u54 u55 u67 : Value), k ≤ N + 1 ∧ mm + k = N + 1 ∧ a = { tmps := #[.slice (some ⟨g, o, none⟩) 3 c, .pointer (some ⟨w.heap.size, 0, none⟩), .pointer (some ⟨w.heap.size + 1, 0, none⟩), .pointer (some ⟨w.heap.size + 1 + 1, 0, none⟩), .int .i64 (sh : Int), .int .i64 (lo : Int), .int .i64 (N : Int), u7, undef, undef, undef, .slice (some ⟨g, o, none⟩) 3 c, .bool true, .bool false, .slice (some ⟨g, o, none⟩) 3 c, .pointer (some ⟨g, o, none⟩), .string (mkS x0), .int .i64 ((x0.length : Nat) : Int), .slice (some ⟨g, o, none⟩) 3 c, .pointer (some ⟨g, o + 1, none⟩), .string (mkS x1), .int .i64 ((x1.length : Nat) : Int), .slice (some ⟨g, o, none⟩) 3 c, .pointer (some ⟨g, o + 2, none⟩), .string (mkS x2), .int .i64 ((x2.length : Nat) : Int), .int .i64 (sh : Int), .slice (some ⟨g, o, none⟩) 3 c, .pointer (some ⟨g, o, none⟩), .string (mkS x0), .int .i64 ((x0.length : Nat) : Int), .slice (some ⟨g, o, none⟩) 3 c, .pointer (some ⟨g, o + 1, none⟩), .string (mkS x1), .int .i64 ((x1.length : Nat) : Int), .slice (some ⟨g, o, none⟩) 3 c, .pointer (some ⟨g, o + 2, none⟩), .string (mkS x2), .int .i64 ((x2.length : Nat) : Int), .int .i64 (lo : Int), .int .i64 (lo : Int), .int .i64 (wrap64 ((lo : Int) - 3)), .int .i64 (sh : Int), .int .i64 (wrap64 (wrap64 ((lo : Int) - 3) + (sh : Int))), .int .i64 (wrap64 (wrap64 (wrap64 ((lo : Int) - 3) + (sh : Int)) - 1)), .int .i64 (sh : Int), .int .i64 (wrap64 ((wrap64 (wrap64 (wrap64 ((lo : Int) - 3) + (sh : Int)) - 1)).tdiv (sh : Int))), .int .i64 (wrap64 (1 + wrap64 ((wrap64 (wrap64 (wrap64 ((lo : Int) - 3) + (sh : Int)) - 1)).tdiv (sh : Int)))), .int .i64 (N : Int), .int .i64 (N : Int), .int .i64 ((N : Int) + 1), .int .i64 (k : Int), u52, u53, u54, u55, undef, undef, undef, undef, undef, undef, undef, undef, undef, undef, undef, u67], defers := ds } ∧
      Hid (MK W.heap.size ds (.slice (some ⟨g, o, none⟩) 3 c) ⟨#[]⟩ 0 w W ∧ keepsO m N = firstK (badB m) (N + 1) k)) (N + 1) ?_ ?_
  · exact ⟨0, [], _, _, _, _, _, _, by omega, rfl, rfl, hid ⟨HMK0.out _, rfl⟩⟩
  rintro mm _ W ⟨k, ds, u7, u52, u53, u54, u55, u67, hkK, hm, rfl, HR⟩ J K2 hJ hK2
  obtain ⟨q0, q1, q2, f1, f2⟩ := HR.out.1.kb.facts
  have hWw : w.heap.size + 2 < W.heap.size := HR.out.1.nl
  have t13 : (decide ((k : Int) < (N : Int) + 1)) = decide (k < N + 1) := by rw [decide_eq_decide]; omega
  by_cases hk : k < N + 1
  · have t1 : decide (k < N + 1) = true := by simpa using hk
    gi_wp2_with fail
    refine ⟨trivial, rfl, (callsIn_wide.2 (free_any (k : Int) 3 W)).mono ?_⟩
    rintro e W1 ⟨rfl, hW1⟩
    have hB1 : Blk W1 W.heap.size #[.int .i64 k] 3 := by rw [← hW1]; exact (Blk.new W _ _).alloc _
    have hB2 : Blk W1 (W.heap.size + 1) #[.int .i64 (3 : Nat)] 3 := by rw [← hW1]; exact Blk.mk' (by simp) rfl
    have hsz : W1.heap.size = W.heap.size + 2 := by rw [← hW1]; simp
    have hb1 : Below W.heap.size W W1 := by rw [← hW1]; exact ((Below.refl _ W).alloc (Nat.le_refl _) _).alloc (by simp) _
    have H1 := hid hB1
    have H2 := hid hB2
    have HSZ := hid hsz
    have HMB := hid (HR.out.1.step hb1)
    have HJ := hid hJ
    clear hW1 q0 q1 q2 f1 f2 hJ hB1 hB2 hsz hb1
    gi_wp2_with fail
    refine wp_range (gf := 67) (lb := #[.pointer (some ⟨W.heap.size, 0, none⟩), .pointer (some ⟨W.heap.size + 1, 0, none⟩)]) rfl Try.call67 ArgS (lv k) (fun b => b = w.heap.size + 1 ∨ b = w.heap.size + 1 + 1) ?_ argS_put ?_
      (KeI (badB m) (W1.heap.size + 1) ds (.slice (some ⟨g, o, none⟩) 3 c) w) (KeX (badB m) (W1.heap.size + 1) ds (.slice (some ⟨g, o, none⟩) 3 c) w (lv k)) ?_ ?_ ?_
      (fun v => { tmps := #[.slice (some ⟨g, o, none⟩) 3 c, .pointer (some ⟨w.heap.size, 0, none⟩), .pointer (some ⟨w.heap.size + 1, 0, none⟩), .pointer (some ⟨w.heap.size + 1 + 1, 0, none⟩), .int .i64 (sh : Int), .int .i64 (lo : Int), .int .i64 (N : Int), .int .i64 (k : Int), v, undef, undef, .slice (some ⟨g, o, none⟩) 3 c, .bool true, .bool false, .slice (some ⟨g, o, none⟩) 3 c, .pointer (some ⟨g, o, none⟩), .string (mkS x0), .int .i64 ((x0.length : Nat) : Int), .slice (some ⟨g, o, none⟩) 3 c, .pointer (some ⟨g, o + 1, none⟩), .string (mkS x1), .int .i64 ((x1.length : Nat) : Int), .slice (some ⟨g, o, none⟩) 3 c, .pointer (some ⟨g, o + 2, none⟩), .string (mkS x2), .int .i64 ((x2.length : Nat) : Int), .int .i64 (sh : Int), .slice (some ⟨g, o, none⟩) 3 c, .pointer (some ⟨g, o, none⟩), .string (mkS x0), .int .i64 ((x0.length : Nat) : Int), .slice (some ⟨g, o, none⟩) 3 c, .pointer (some ⟨g, o + 1, none⟩), .string (mkS x1), .int .i64 ((x1.length : Nat) : Int), .slice (some ⟨g, o, none⟩) 3 c, .pointer (some ⟨g, o + 2, none⟩), .string (mkS x2), .int .i64 ((x2.length : Nat) : Int), .int .i64 (lo : Int), .int .i64 (lo : Int), .int .i64 (wrap64 ((lo : Int) - 3)), .int .i64 (sh : Int), .int .i64 (wrap64 (wrap64 ((lo : Int) - 3) + (sh : Int))), .int .i64 (wrap64 (wrap64 (wrap64 ((lo : Int) - 3) + (sh : Int)) - 1)), .int .i64 (sh : Int), .int .i64 (wrap64 ((wrap64 (wrap64 (wrap64 ((lo : Int) - 3) + (sh : Int)) - 1)).tdiv (sh : Int))), .int .i64 (wrap64 (1 + wrap64 ((wrap64 (wrap64 (wrap64 ((lo : Int) - 3) + (sh : Int)) - 1)).tdiv (sh : Int)))), .int .i64 (N : Int), .int .i64 (N : Int), .int .i64 ((N : Int) + 1), .int .i64 (k : Int), .bool true, .int .i64 (k : Int), .int .i64 (k : Int), .func (.func 67) #[] #[.pointer (some ⟨W.heap.size, 0, none⟩), .pointer (some ⟨W.heap.size + 1, 0, none⟩)], v, undef, undef, undef, undef, undef, undef, undef, undef, undef, undef, u67], defers := [] }) ?_ ?_ ?_ ?_
    · rintro b (rfl | rfl) <;> (rw [HSZ.out]; omega)
    · intro W2 hW2 hb2
      refine free_iter k 3 _ _ _ W2 (by omega) (by omega) ⟨H1.out.below hb2 (by rw [HSZ.out]; omega), ?_⟩ ⟨H2.out.below hb2 (by rw [HSZ.out]; omega), ?_⟩
      · rw [HSZ.out]; omega
      · rw [HSZ.out]; omega
    · exact KeI_firm _ _ _ _ _
    · exact KeX_firm _ _ _ _ _ _
    · intro W2 hb2
      exact ⟨(HMB.out.step hb2).up (by rw [HSZ.out]; omega), .inl rfl, .inr rfl, by simp⟩
    · intro v W2 K3 hK
      gi_wp2
      exact hK
    · rintro pre x post v C W2 hx ⟨h1, h2, h3, h4⟩ rfl hsz2 hC ⟨r, hr⟩
      have hmem : x ∈ lv k := by rw [hx]; simp
      obtain ⟨hl1, hl2, hl3⟩ := (mem_lv k x).1 hmem
      obtain ⟨q0, q1, q2, f1, f2⟩ := h1.kb.facts
      have hsx := mkS_size x
      have HI := hid (image_any (some ⟨g, o, none⟩) c m (mkS x) W2 (HM.out.below h1.below (Nat.le_refl _)) HMAP.out (by omega) (by rw [mkS_data]; exact hl2))
      rw [mkS_data] at HI
      have himg : (imgW m x).length ≤ 200 := by have := imgW_len HMAP.out hl2; omega
      have HC := hid hC
      have HX := hid hx
      have HR2 := hid hr
      have HMM := hid h1
      have HP4 := hid h4
      clear hC hx hr h1 h4 hmem hl1 hl2 hl3 hsx
      gi_wp2_with fail
      refine ⟨trivial, rfl, CallsIn.inRound _ ((callsIn_wide.2 HI.out).mono ?_)⟩
      rintro e W3 ⟨rfl, hb3⟩
      have HS := hid (square_any (mkS (imgW m x)) W3 (by rw [mkS_size]; omega))
      rw [mkS_data] at HS
      have HM3 := hid (HMM.out.step hb3)
      have HK3 := hid (KeepsX.of_below (M := C) hb3)
      have hl3 : ∃ r, W3.heap[W1.heap.size + 1]? = some (Obj.loop r) := ⟨r, (hb3.block _ (lt_of_block HR2.out)).trans HR2.out⟩
      have HL3' := hid hl3
      clear hb3 q0 q1 q2 f1 f2 hl3
      gi_wp2_with fail
      refine ⟨trivial, rfl, CallsIn.inRound _ ((callsIn_wide.2 HS.out).mono ?_)⟩
      rintro e W4 ⟨rfl, hb4⟩
      have HM4 := hid (HM3.out.step hb4)
      have HK4 := hid (HK3.out.trans (KeepsX.of_below (M := C) hb4))
      have hp1 := at1_free (imgW m x)
      have hp2 := at1_pos (imgW m x)
      obtain ⟨y, hy⟩ : ∃ y : Int, y = at1 (sq (imgW m x)) := ⟨_, rfl⟩
      rw [← hy] at hp1 hp2 ⊢
      obtain ⟨q0, q1, q2, f1, f2⟩ := HM4.out.kb.facts
      clear hb4 hy
      by_cases hb : badB m x = true
      · have hy0 : 0 < y := hp2 (by simpa [badB] using hb)
        have hyd : decide (y > 0) = true := by simpa using hy0
        have HBD := hid hb
        clear hb hp1 hp2
        gi_wp2_with fail
        have hk4 : KeepsX C W2 ((W4.setCell ⟨w.heap.size + 1, 0, none⟩ (.string (mkS x))).setCell ⟨w.heap.size + 1 + 1, 0, none⟩ (.int .i64 0)) := (HK4.out.trans (KeepsX.setCell _ h2)).trans (KeepsX.setCell _ h3)
        refine ⟨C, Grew.refl hk4 (fun k hk => (HC.out k hk).1), rfl, x, HM4.out.put _ _, ?_⟩
        rw [HX.out, List.find?_append, List.find?_eq_none.2 (fun y hy => by simp [HP4.out y hy])]
        simp [HBD.out]
      · have hb0 : badB m x = false := by simpa using hb
        have hy0 : y = 0 := hp1.2 (by simpa [badB] using hb0)
        have HBD := hid hb0
        clear hb hb0 hp1 hp2
        subst hy0
        gi_wp2_with fail
        refine ⟨C, Grew.refl HK4.out (fun k hk => (HC.out k hk).1), HM4.out, h2, h3, ?_⟩
        intro y hy
        rcases List.mem_append.1 hy with hy | hy
        · exact HP4.out y hy
        · cases List.mem_singleton.1 hy; exact HBD.out
    · rintro C W2 hsz2 ⟨h1, h2, h3, h4⟩ hD
      have HMM := hid h1
      have HD := hid hD
      have H4 := hid h4
      clear h1 h2 h3 hD h4
      gi_wp2_with fail
      have hfn : (lv k).find? (badB m) = none := by
        rw [List.find?_eq_none]
        intro y hy
        simpa using H4.out y hy
      have hD1 : w.heap.size + 3 ≤ W1.heap.size := by rw [HSZ.out]; omega
      have hD2 : ∀ k, { target := Target.collected k, args := #[] } ∈ ds → k ≠ W1.heap.size := fun D hD => by
        have := HMB.out.lt D hD
        rw [HSZ.out]; omega
      refine Handed.intro (mm - 1) (by omega) (HJ.out _ _ _ ⟨k + 1, _, _, _, _, _, _, _, by omega, by omega, rfl, hid ⟨HMM.out.cons hD1 HD.out hD2 (by omega) (by omega), ?_⟩⟩)
      rw [HR.out.2, firstK_step _ _ _ hk, hfn]; rfl
    · rintro cc pre x post C W2 hsz2 hx ⟨rfl, y, hmk, hf⟩ hD
      have HMM := hid hmk
      have HD := hid hD
      have HF := hid hf
      clear hmk hD hx hf
      gi_wp2_with fail
      have hgk : keepsO m N = some y := by rw [HR.out.2, firstK_step _ _ _ hk, HF.out]; rfl
      have hD1 : w.heap.size + 3 ≤ W1.heap.size := by rw [HSZ.out]; omega
      have hD2 : ∀ k, { target := Target.collected k, args := #[] } ∈ ds → k ≠ W1.heap.size := fun D hD => by
        have := HMB.out.lt D hD
        rw [HSZ.out]; omega
      exact (HMM.out.cons hD1 HD.out hD2 (Nat.le_refl _) (by omega)).leave (fun w' r1 r2 => by simp [results, Try.results32, go_sem, r1, r2]) (fun w' hb => ⟨by rw [hgk]; rfl, hb⟩)
  · have t1 : decide (k < N + 1) = false := by simpa using hk
    have h0 : keepsO m N = none := by rw [HR.out.2, firstK_end _ _ _ hk]
    have HP := hid (HR.out.1.put ⟨#[]⟩ 6)
    have H0 := hid h0
    clear h0
    gi_wp2_with fail
    exact HP.out.leave (fun w' r1 r2 => by simp [results, Try.results32, go_sem, r1, r2]) (fun w' hb => ⟨by rw [H0.out]; rfl, hb⟩)
end Go.Proofs.Ytancficmkkdnfaa
