/-
  Walks: a shortest part with the sum zero.
-/
import Derived.Test.YtkmpdcckgibkhaaGreatVh
namespace Go.Proofs.YtkmpdcckgibkhaaGreat
open Go.RowKit Go.ChangeMaps

theorem Maps.below {n : Int} {L : List Int} {f : Nat → Value} {i B : Nat} {W W' : World} (h : Maps n L f i W B) (hb : Below W.heap.size W W') : Maps n L f i W' B := by
  intro j h1 h2
  obtain ⟨b, M, e1, e2, e3, e4⟩ := h j h1 h2
  exact ⟨b, M, e1, e2, e3.below hb e3.lt, e4⟩
/-- A shortest part with the sum zero. -/
def ZeroP (w : World) (n : Int) (L : List Int) (v : Value) (w' : World) : Prop :=
  ∃ m, 1 ≤ m ∧ Rch n L m 0 ∧ (∀ m', 1 ≤ m' → Rch n L m' 0 → m ≤ m') ∧ PartP w n L m 0 v w'
/-- What the search for a shortest part keeps. -/
def ShI (w : World) (n : Int) (L : List Int) (v : Value) (ro : Nat) (f : Nat → Value) (B0 m : Nat) (W : World) : Prop :=
  Below w.heap.size w W ∧ Blk W w.heap.size #[.int .i64 n, .int .i64 1, .int .i64 1] 59 ∧ Blk W (w.heap.size + 1) #[.int .i64 0, .int .i64 0] 57 ∧
    Blk W ro (rowW f (L.length + 1)) 113 ∧ Maps n L f 0 W B0 ∧ ElsAt W v L ∧ ∀ m', 1 ≤ m' → m' < m → ¬ Rch n L m' 0
theorem ShI.low {w W W' : World} {n : Int} {L : List Int} {v : Value} {ro B0 m : Nat} {f : Nat → Value} (h : ShI w n L v ro f B0 m W) (hb : Below W.heap.size W W') : ShI w n L v ro f B0 m W' := by
  obtain ⟨h1, h2, h3, h4, h5, h6, h7⟩ := h
  exact ⟨h1.trans (hb.mono h1.size), h2.below hb h2.lt, h3.below hb h3.lt, h4.below hb h4.lt, h5.below hb, h6.below hb (Nat.le_refl _), h7⟩

set_option maxRecDepth 100000 in
set_option maxHeartbeats 4000000 in
theorem shortest35 (n : Int) (v : Value) (L : List Int) (m0 : Nat) (w : World) (hv : ElsAt w v L) (hm0 : 1 ≤ m0) (hr : Rch n L m0 0) (hl : L.length ≤ 60) (hn : 2 ≤ n) (hn2 : n ≤ 24) (hL : ∀ x ∈ L, 0 ≤ x ∧ x < n) :
    Calls Tryz.prog 35 #[grpV n, v, elV 0, .int .i64 1] w fun e w' => ∃ v, e = .returned (.tuple #[v, .int .i64 0]) ∧ ZeroP w n L v w' := by
  obtain ⟨W0, hW0⟩ : ∃ W0, W0 = (w.alloc (.cells #[.int .i64 n, .int .i64 1, .int .i64 1] 59)).alloc (.cells #[.int .i64 0, .int .i64 0] 57) := ⟨_, rfl⟩
  have hB : Below w.heap.size w W0 := by
    rw [hW0]
    exact ((Below.refl _ w).alloc (Nat.le_refl _) _).alloc (by simp) _
  have k1 : Blk W0 w.heap.size #[.int .i64 n, .int .i64 1, .int .i64 1] 59 := by rw [hW0]; exact (Blk.new w _ _).alloc _
  have k2 : Blk W0 (w.heap.size + 1) #[.int .i64 0, .int .i64 0] 57 := by rw [hW0]; exact Blk.mk' (by simp) rfl
  have C := hid (reached32 n v L W0 (hv.below hB (Nat.le_refl _)) hl hn hn2 hL)
  have H0 := hid (And.intro hB (And.intro k1 (And.intro k2 (hv.below hB (Nat.le_refl _)))))
  rw [show grpV n = .agg #[.int .i64 n, .int .i64 1, .int .i64 1] from rfl, show elV 0 = .agg #[.int .i64 0, .int .i64 0] from rfl]
  rw [show grpV n = .agg #[.int .i64 n, .int .i64 1, .int .i64 1] from rfl] at C
  clear hB k1 k2
  obtain ⟨a, c, rfl, hva⟩ := hv
  have HR := hid hr
  have HL := hid hL
  clear hr hL hva
  go_enter Tryz.func35, Tryz.ntmps35
  go_wp2_with fail
  rw [← hW0]
  refine C.out.mono ?_
  rintro e W1 ⟨ro, f, rfl, hro, hbk, hmp, hb1⟩
  have H1 := hid (show ShI w n L (.slice a L.length c) ro f W0.heap.size 1 W1 from by
    obtain ⟨a1, a2, a3, a4⟩ := H0.out
    exact ⟨a1.trans (hb1.mono a1.size), a2.below hb1 a2.lt, a3.below hb1 a3.lt, hbk, hmp, a4.below hb1 (Nat.le_refl _), fun m' h1 h2 => by omega⟩)
  clear hro hbk hmp hb1 hW0 C H0
  go_wp2_with fail
  go_loopw [11] (fun iv W => ∃ m : Nat, 1 ≤ m ∧ m ≤ m0 ∧ iv = .int .i64 m ∧ Hid (ShI w n L (.slice a L.length c) ro f W0.heap.size m W)) (fun iv _ => m0 + 1 - (intOf iv).toNat)
  case atStart => exact ⟨1, Nat.le_refl _, hm0, rfl, H1⟩
  case round =>
    obtain ⟨m, h1m, hm, rfl, H⟩ := hrel
    have hmL := (HR.out.range (by omega)).2.2
    have dm : decide ((m : Int) ≤ (L.length : Int)) = true := by simp; omega
    obtain ⟨bm, M, hf0, hbm, hmM, hrM⟩ := H.out.2.2.2.2.1 0 (Nat.le_refl _) (Nat.zero_le _)
    rw [List.drop_zero] at hrM
    obtain ⟨W2, hW2⟩ : ∃ W2, W2 = wr.alloc (.cells #[.int .i64 m, .int .i64 0, .int .i64 0] 65) := ⟨_, rfl⟩
    have hb2 : Below wr.heap.size wr W2 := by rw [hW2]; exact (Below.refl _ wr).alloc (Nat.le_refl _) _
    have H2 := hid (H.out.low hb2)
    have kb : Blk W2 wr.heap.size #[.int .i64 m, .int .i64 0, .int .i64 0] 65 := by rw [hW2]; exact Blk.new wr _ _
    have HM := hid (And.intro (hmM.below hb2 hmM.lt) (And.intro hrM (And.intro hf0 kb)))
    have s0 := H.out.2.2.1.cell 0
    have s1 := H.out.2.2.1.cell 1
    clear hmM hrM hf0 hbm kb hb2
    go_wp2_with fail
    rw [← hW2]
    obtain ⟨kb, hkb⟩ : ∃ kb, kb = wr.heap.size := ⟨_, rfl⟩
    rw [← hkb] at HM ⊢
    clear hW2 hkb s0 s1
    obtain ⟨bq, hbq, hans⟩ : ∃ bq : Bool, (bq = true ↔ Rch n L m 0) ∧ (get ((m : Int), (0 : Int), (0 : Int)) M).getD (.bool false) = .bool bq := by
      classical
      exact ⟨decide (Rch n L m 0), by simp, HM.out.2.1.answer m 0⟩
    have q1 := H2.out.2.2.2.1.rowWat 0 (by omega)
    rw [HM.out.2.2.1] at q1
    have q2 := HM.out.2.2.2.cell 0
    have q3 := HM.out.2.2.2.cell 1
    have q4 := HM.out.2.2.2.cell 2
    have hlk := look113 HM.out.1.drew m 0 bq hans
    have hlk2 := look113 HM.out.1 m 0 bq hans
    have HBQ := hid hbq
    clear hbq hans
    go_wp2_with fail
    go_region
    cases bq with
    | true =>
      have CP := hid (part31 n (.slice a L.length c) L ro f W0.heap.size m 0 W2.drew H2.out.2.2.2.2.2.1 H2.out.2.2.2.1 H2.out.2.2.2.2.1 (HBQ.out.1 rfl) hl hn hn2 HL.out)
      rw [show grpV n = .agg #[.int .i64 n, .int .i64 1, .int .i64 1] from rfl] at CP
      have g0 := H2.out.2.1.cell 0
      have g1 := H2.out.2.1.cell 1
      have g2 := H2.out.2.1.cell 2
      clear q1 hlk hlk2
      go_wp2_with fail
      refine CP.out.mono ?_
      rintro e w8 ⟨v8, rfl, hP⟩
      have HE := hid hP
      have hmr : Rch n L m 0 := by simpa using HBQ.out
      clear hP g0 g1 g2
      go_wp2_with fail
      go_returns
      obtain ⟨P, p1, p2, p3, p4, p5⟩ := HE.out
      obtain ⟨a1, -, -, -, -, -, a7⟩ := H2.out
      have hs : w.heap.size ≤ W2.heap.size := a1.size
      refine ⟨v8, rfl, m, h1m, hmr, fun m' h1 h2 => ?_, P, own_base p1 hs, p2, p3, p4, a1.drew.trans (p5.mono hs)⟩
      rcases Nat.lt_or_ge m' m with h | h
      · exact absurd h2 (a7 m' h1 h)
      · exact h
    | false =>
      clear q1 q2 q3 q4 hlk hlk2
      have hno : ¬ Rch n L m 0 := fun h => by have := HBQ.out.2 h; cases this
      have hne : m ≠ m0 := fun h => hno (h ▸ HR.out)
      have HN := hid (show ShI w n L (.slice a L.length c) ro f W0.heap.size (m + 1) W2.drew from by
        obtain ⟨a1, a2, a3, a4, a5, a6, a7⟩ := H2.out
        refine ⟨a1.drew, a2, a3, a4, a5, a6, fun m' h1 h2 => ?_⟩
        by_cases e : m' = m
        · subst e; exact hno
        · exact a7 m' h1 (by omega))
      have e1 : m + 1 ≤ m0 := by omega
      obtain ⟨w1, w2⟩ := wrap_up60 m (by omega)
      go_wp2_with fail
      clear w1 w2
      exact ⟨⟨m + 1, by omega, e1, by go_num, HN⟩, by simp [intOf]; omega⟩

end Go.Proofs.YtkmpdcckgibkhaaGreat
