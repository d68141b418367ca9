/-
  Walks: First.
-/
import Derived.Test.YtancficmkkdnfaaJ
namespace Go.Proofs.Ytancficmkkdnfaa
open Go.RowKit
attribute [local go_sem] Oper.semAt_some

/-- The boxes of the two results. -/
structure RB (b : Nat) (s : ByteArray) (no : Int) (W : World) : Prop where
  s : Blk W b #[.string s] 9
  e : Blk W (b + 1) #[.int .i64 no] 25
theorem RB.new (w : World) (s : ByteArray) (no : Int) : RB w.heap.size s no ((w.alloc (.cells #[.string s] 9)).alloc (.cells #[.int .i64 no] 25)) :=
  ⟨(Blk.new w _ _).alloc _, Blk.mk' (by simp) rfl⟩
theorem RB.below {b : Nat} {s : ByteArray} {no : Int} {W W' : World} {B : Nat} (h : RB b s no W) (hb : Below B W W') (hB : b + 1 < B) : RB b s no W' :=
  ⟨h.s.below hb (by omega), h.e.below hb hB⟩
theorem RB.facts {b : Nat} {s : ByteArray} {no : Int} {W : World} (h : RB b s no W) :
    W.cell? ⟨b, 0, none⟩ = some (.string s) ∧ W.cell? ⟨b + 1, 0, none⟩ = some (.int .i64 no) ∧ W.frozen? ⟨b, 0, none⟩ = false ∧ W.frozen? ⟨b + 1, 0, none⟩ = false := by
  have a := h.s.cell 0
  have c := h.e.cell 0
  simp only [List.getElem?_toArray, List.getElem?_cons_zero] at a c
  exact ⟨a, c, h.s.free 0, h.e.free 0⟩
theorem RB.put {b : Nat} {s : ByteArray} {no : Int} {W : World} (h : RB b s no W) (s' : ByteArray) (no' : Int) : RB b s' no' ((W.setCell ⟨b, 0, none⟩ (.string s')).setCell ⟨b + 1, 0, none⟩ (.int .i64 no')) :=
  ⟨(h.s.set 0 _).other _ (by simp) _, (h.e.other _ (by simp) _).set 0 _⟩
theorem RB.shut {B b : Nat} {s : ByteArray} {no : Int} {W W' : World} (h : RB b s no W) (hs : ShutM B W W') : RB b s no W' := ⟨hs.blk h.s, hs.blk h.e⟩
theorem RB.firm {b : Nat} {s : ByteArray} {no : Int} {W W' : World} {l : Nat} (h : RB b s no W) (hl : b + 1 < l) (hk : ∀ k, k < W.heap.size → k ≠ l → W'.heap[k]? = W.heap[k]?) : RB b s no W' :=
  ⟨(hk _ h.s.lt (by omega)).trans h.s, (hk _ h.e.lt (by omega)).trans h.e⟩
theorem FirmX.rb {β : Type} {l b : Nat} {s : ByteArray} {no : Int} (hl : b + 1 < l) : FirmX l (fun (_ : β) _ W => RB b s no W) :=
  fun _ _ _ _ h _ _ _ _ hk => h.firm hl hk

def RetFirst (o : Option (List UInt8)) (w : World) (e : Ending) (w' : World) : Prop :=
  e = .returned (match o with | some x => .tuple #[.string (mkS x), .int .i64 0] | none => .tuple #[.string ⟨#[]⟩, .int .i64 6]) ∧ Below w.heap.size w w'

set_option maxHeartbeats 1000000 in
theorem first_no (n k : Int) (w : World) (h : ¬ (0 ≤ n ∧ n ≤ 60 ∧ 1 ≤ k ∧ k ≤ 4)) :
    Calls Try.prog 40 #[.int .i64 n, .int .i64 k] w fun e w' => e = .returned (.tuple #[.string ⟨#[]⟩, .int .i64 2]) ∧ Below w.heap.size w w' := by
  have H := hid h
  clear h
  have hrb := RB.new w ⟨#[]⟩ 0
  obtain ⟨q1, q2, f1, f2⟩ := hrb.facts
  have hbw : Below w.heap.size w ((w.alloc (.cells #[.string ⟨#[]⟩] 9)).alloc (.cells #[.int .i64 0] 25)) := ((Below.refl _ w).alloc (Nat.le_refl _) _).alloc (by simp) _
  have HRB := hid hrb
  have HB := hid hbw
  clear hrb hbw
  by_cases h1 : 0 ≤ n ∧ n ≤ 60
  · have hd1 : (decide (0 ≤ n) && decide (n ≤ 60)) = true := by simp; exact h1
    have hd2 : (decide (1 ≤ k) && decide (k ≤ 4)) = false := by
      have := H.out
      simp only [Bool.and_eq_false_iff, decide_eq_false_iff_not]; omega
    clear h1
    go_enter Try.func40, Try.ntmps40
    go_wp2_with fail
    refine (within_any _ _ _ _).mono ?_
    rintro e w1 ⟨rfl, rfl⟩
    rw [hd1]
    go_wp2_with fail
    refine (within_any _ _ _ _).mono ?_
    rintro e w1 ⟨rfl, rfl⟩
    rw [hd2]
    go_wp2_with fail
    refine bodyPost_ret (v := .tuple #[.string ⟨#[]⟩, .int .i64 2]) (by simp [results, Try.results40, go_sem]) rfl ⟨rfl, ?_⟩
    exact ((Below.refl _ w).alloc (Nat.le_refl _) _).alloc (by simp) _
  · have hd1 : (decide (0 ≤ n) && decide (n ≤ 60)) = false := by
      simp only [Bool.and_eq_false_iff, decide_eq_false_iff_not]; omega
    clear h1
    go_enter Try.func40, Try.ntmps40
    go_wp2_with fail
    refine (within_any _ _ _ _).mono ?_
    rintro e w1 ⟨rfl, rfl⟩
    rw [hd1]
    go_wp2_with fail
    refine bodyPost_ret (v := .tuple #[.string ⟨#[]⟩, .int .i64 2]) (by simp [results, Try.results40, go_sem]) rfl ⟨rfl, ?_⟩
    exact ((Below.refl _ w).alloc (Nat.le_refl _) _).alloc (by simp) _

set_option maxHeartbeats 4000000 in
theorem first_yes (n k : Nat) (w : World) (hn : n ≤ 60) (hk : 1 ≤ k) (hk2 : k ≤ 4) :
    Calls Try.prog 40 #[.int .i64 n, .int .i64 k] w (RetFirst (frW k n []).head? w) := by
  have hd1 : (decide (0 ≤ (n : Int)) && decide ((n : Int) ≤ 60)) = true := by simp; omega
  have hd2 : (decide (1 ≤ (k : Int)) && decide ((k : Int) ≤ 4)) = true := by simp; omega
  obtain ⟨T, hT⟩ : ∃ T, T = frW k n [] := ⟨_, rfl⟩
  rw [← hT]
  have HT := hid hT
  clear hT
  refine (callsIn_wide (n := 0)).1 (callsIn_of_wp_marks Try.func40 rfl trivial ?_ rfl)
  simp only [Try.ntmps40, List.size_toArray, List.length_cons, List.length_nil, Nat.reduceAdd, Nat.reduceSub, Array.replicate_succ, Array.replicate_zero, List.push_toArray, List.append_toArray, List.nil_append, List.cons_append]
  gi_wp2_with fail
  refine ⟨trivial, rfl, (callsIn_wide.2 (within_any _ _ _ _)).mono ?_⟩
  rintro e w1 ⟨rfl, rfl⟩
  rw [hd1]
  gi_wp2_with fail
  refine ⟨trivial, rfl, (callsIn_wide.2 (within_any _ _ _ _)).mono ?_⟩
  rintro e w1 ⟨rfl, rfl⟩
  rw [hd2]
  gi_wp2_with fail
  refine ⟨trivial, rfl, (callsIn_wide.2 (free_any _ _ _)).mono ?_⟩
  rintro e W1 ⟨rfl, hW1⟩
  have hR : RB w.heap.size ⟨#[]⟩ 0 W1 := by
    rw [← hW1]
    exact (RB.new w ⟨#[]⟩ 0).below (((Below.refl (w.heap.size + 2) _).alloc (by simp) _).alloc (by simp) _) (by omega)
  have hs0 : ((w.alloc (.cells #[.string ⟨#[]⟩] 9)).alloc (.cells #[.int .i64 0] 25)).heap.size = w.heap.size + 2 := by simp
  have hB1 : Blk W1 (w.heap.size + 2) #[.int .i64 n] 3 := by rw [← hW1]; exact (Blk.mk' (by simp) rfl : Blk _ _ _ _).alloc _
  have hB2 : Blk W1 (w.heap.size + 2 + 1) #[.int .i64 k] 3 := by rw [← hW1]; exact Blk.mk' (by simp) rfl
  have hsz : W1.heap.size = w.heap.size + 4 := by rw [← hW1]; simp
  have hb1 : Below w.heap.size w W1 := by rw [← hW1]; exact ((((Below.refl _ w).alloc (Nat.le_refl _) _).alloc (by simp) _).alloc (by simp; omega) _).alloc (by simp; omega) _
  rw [hs0]
  have HR := hid hR
  have HB1 := hid hB1
  have HB2 := hid hB2
  have HSZ := hid hsz
  have HBW := hid hb1
  clear hW1 hR hs0 hB1 hB2 hsz hb1
  gi_wp2_with fail
  refine wp_range (gf := 67) (lb := #[.pointer (some ⟨w.heap.size + 2, 0, none⟩), .pointer (some ⟨w.heap.size + 2 + 1, 0, none⟩)]) rfl Try.call67 ArgS T (fun b => b = w.heap.size ∨ b = w.heap.size + 1) ?_ argS_put ?_
    (fun pre C W => RB w.heap.size ⟨#[]⟩ 0 W ∧ (C w.heap.size ∧ C (w.heap.size + 1) ∧ pre = []) ∧ Below w.heap.size w W)
    (fun c pre C W => ∃ x, RB w.heap.size (mkS x) 0 W ∧ (c = .ret ∧ T.head? = some x) ∧ Below w.heap.size w W) ?_ ?_ ?_
    (fun v => { tmps := #[.int .i64 n, .int .i64 k, undef, undef, .pointer (some { block := w.heap.size, off := 0 }), .pointer (some { block := w.heap.size + 1, off := 0 }), v, .int .i64 n, .bool true, .bool false, .bool false, .int .i64 k, .bool true, .bool false, .bool false, .int .i64 n, .int .i64 k, .func (.func 67) #[] #[.pointer (some { block := w.heap.size + 2, off := 0 }), .pointer (some { block := w.heap.size + 2 + 1, off := 0 })], v, undef], defers := [] }) ?_ ?_ ?_ ?_
  · rintro b (rfl | rfl) <;> (rw [HSZ.out]; omega)
  · intro W2 hW2 hb2
    rw [HT.out]
    refine free_iter n k _ _ _ W2 (by omega) (by omega) ⟨HB1.out.below hb2 (by rw [HSZ.out]; omega), ?_⟩ ⟨HB2.out.below hb2 (by rw [HSZ.out]; omega), ?_⟩
    · rw [HSZ.out]; omega
    · rw [HSZ.out]; omega
  · have hs := HSZ.out
    exact FirmX.and (FirmX.rb (by omega)) (FirmX.and (FirmX.pure _) (FirmX.below (Nat.le_refl _) (by omega)))
  · intro c
    have hs := HSZ.out
    exact FirmX.ex fun x => FirmX.and (FirmX.rb (by omega)) (FirmX.and (FirmX.pure _) (FirmX.below (Nat.le_refl _) (by omega)))
  · intro W2 hb2
    exact ⟨HR.out.below hb2 (by rw [HSZ.out]; omega), ⟨.inl rfl, .inr rfl, rfl⟩, HBW.out.trans (hb2.mono (by rw [HSZ.out]; omega))⟩
  · intro v W2 K3 hK
    gi_wp2
    exact hK
  · rintro pre x post v C W2 hx ⟨h1, ⟨h2, h2', rfl⟩, h3⟩ rfl hsz2 hC ⟨r, hr⟩
    have hhd : T.head? = some x := by rw [hx]; rfl
    obtain ⟨q1, q2, f1, f2⟩ := h1.facts
    have H1 := hid h1
    have H3 := hid h3
    have HC := hid hC
    have HH := hid hhd
    clear h1 h3 hC hx hr hhd
    gi_wp2_with fail
    refine ⟨C, Grew.refl ((KeepsX.setCell _ h2).trans (KeepsX.setCell _ h2')) (fun k hk => (HC.out k hk).1), x, H1.out.put _ _, ⟨rfl, HH.out⟩, (H3.out.setCell (Nat.le_refl _) _).setCell (by simp) _⟩
  · rintro C W2 hsz2 ⟨h1, ⟨h2, h2', hT0⟩, h3⟩ hD
    obtain ⟨q1, q2, f1, f2⟩ := h1.facts
    have H1 := hid h1
    have H3 := hid h3
    have HD := hid hD
    have H0 := hid hT0
    clear h1 h3 hD hT0
    gi_wp2_with fail
    have hm : MarksOk w.heap.size [{ target := .collected W1.heap.size, args := #[] }] ((W2.setCell ⟨w.heap.size, 0, none⟩ (.string ⟨#[]⟩)).setCell ⟨w.heap.size + 1, 0, none⟩ (.int .i64 6)) := by
      refine (MarksOk.nil _ _).cons (by rw [HSZ.out]; omega) ?_ (fun k hk => by simp at hk)
      have := HSZ.out
      exact (Below.heap_setCell _ _ _ _ (by simp; omega)).trans ((Below.heap_setCell _ _ _ _ (by simp; omega)).trans HD.out)
    refine leaves_marks (v := .tuple #[.string ⟨#[]⟩, .int .i64 6]) _ _ hm (by simp [World.setCell]; have := HSZ.out; omega) (fun w' hs => ?_) (fun w' hs => ?_)
    · obtain ⟨r1, r2, -, -⟩ := ((H1.out.put ⟨#[]⟩ 6).shut hs).facts
      simp [results, Try.results40, go_sem, r1, r2]
    · refine ⟨by rw [H0.out]; rfl, ?_⟩
      exact ((H3.out.setCell (Nat.le_refl _) _).setCell (by simp) _).trans (hs.below.mono (Nat.le_refl _))
  · rintro c pre x post C W2 hsz2 hx ⟨y, h1, ⟨rfl, h2⟩, h3⟩ hD
    have H1 := hid h1
    have H3 := hid h3
    have HD := hid hD
    have H0 := hid h2
    clear h1 h3 hD h2 hx
    gi_wp2_with fail
    have hm : MarksOk w.heap.size [{ target := .collected W1.heap.size, args := #[] }] W2 := (MarksOk.nil _ _).cons (by rw [HSZ.out]; omega) HD.out (fun k hk => by simp at hk)
    refine leaves_marks (v := .tuple #[.string (mkS y), .int .i64 0]) _ W2 hm (by have := HSZ.out; omega) (fun w' hs => ?_) (fun w' hs => ?_)
    · obtain ⟨r1, r2, -, -⟩ := (H1.out.shut hs).facts
      simp [results, Try.results40, go_sem, r1, r2]
    · exact ⟨by rw [H0.out], H3.out.trans (hs.below.mono (Nat.le_refl _))⟩
end Go.Proofs.Ytancficmkkdnfaa
