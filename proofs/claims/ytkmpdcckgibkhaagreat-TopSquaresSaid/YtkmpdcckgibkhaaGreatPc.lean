/-
  Walks: Vector of the tree with one fork: behind a function that recovers.
-/
import Derived.Test.YtkmpdcckgibkhaaGreatPb
import Derived.Defers
import Derived.Recover
namespace Go.Proofs.YtkmpdcckgibkhaaGreat
open Go.RowKit

theorem eql_nil (w : World) : (binOp BinOp.eql 20 .nilIface .nilIface).run Tryz.prog w = .ok (.bool true) w := by kernel_rfl

set_option maxHeartbeats 1000000 in
theorem guard_idle (p : Addr) (w : World) :
    CallsD Tryz.prog 131 #[.pointer (some p)] .returning w fun e u' w' => e = .returned (.tuple #[]) ∧ u' = .returning ∧ w' = w := by
  refine callsD_of_wpS Tryz.func131 rfl fun c₀ cs hu => ?_
  apply wpS_seq
  apply wpS_region
  simp [wpOpsS, go_sem, recoverD, hu, Tryz.ntmps131, Exit.thenS]
  refine wpS_of_wp ?_
  go_wp2_with fail
  cases c₀
  simp_all [bodyPostS, results, Tryz.results131]

theorem Ints.setOther {w : World} {a : Option Addr} {q : Nat} {u : Value} {t : TypeId} (h : Ints w a [0]) (hq : Blk w q #[u] t) (hu : u ≠ .int .i64 0) (v : Value) : Ints (w.setCell ⟨q, 0, none⟩ v) a [0] := by
  rcases h with h | ⟨g, o, ha, hg, hc⟩
  · exact .inl h
  · have h0 := hc 0 _ rfl
    refine .inr ⟨g, o, ha, Nat.lt_of_lt_of_le hg (by simp), fun i u' hu' => ?_⟩
    refine (World.cell?_setCell_other _ _ _ _ fun he => ?_).trans (hc i u' hu')
    simp only [Addr.mk.injEq] at he
    obtain ⟨rfl, ho, -⟩ := he
    have h1 := hq.cell (o + 0)
    rw [show o = 0 by omega] at h1 h0
    rw [h0] at h1
    exact hu (by simpa using h1.symm)

/-- The call answers v; the block q holds the list of the number 0; else memory is as it was. -/
def VecB (v : Value) (q : Nat) (w : World) (e : Ending) (w' : World) : Prop := e = .returned v ∧ ∃ a c, Blk w' q #[.slice a 1 c] 24 ∧ Ints w' a [0] ∧ w.grownBy w' (some q)
theorem grown_set {w w1 : World} {q : Nat} (hb : ∀ k, k < w.heap.size → some k ≠ some q → w1.heap[k]? = w.heap[k]?) (h1 : w1.os = w.os) (h2 : w1.tape = w.tape) (h3 : w1.output = w.output) (h4 : w.heap.size ≤ w1.heap.size) (b : Nat) (hq : b = q ∨ w.heap.size ≤ b) (v : Value) : w.grownBy (w1.setCell ⟨b, 0, none⟩ v) (some q) :=
  ⟨h1, h2, h3, by simpa using h4, fun k hk hne => (Below.heap_setCell w1 ⟨b, 0, none⟩ v k (by rcases hq with rfl | hq; { exact fun e => hne (by rw [e]) }; { exact fun e => by subst e; exact absurd hk (by simpa using hq) })).trans (hb k hk hne)⟩

theorem vec_call (p q : Nat) (w : World) (h1 : Blk w p #[.string (mkS [40, 46, 46, 41])] 9) (h2 : Blk w q #[.slice none 0 0] 24) :
    Calls Tryz.prog 96 #[.pointer (some ⟨p, 0, none⟩), .pointer (some ⟨q, 0, none⟩)] w (VecB (.tuple #[]) q w) := by
  have q0 := h1.cell 0
  have HQ := hid h2
  clear h1 h2
  go_enter Tryz.func96, Tryz.ntmps96
  go_wp2_with fail
  refine (read_fork _).mono ?_
  rintro e w1 ⟨rfl, hb1⟩
  go_wp2_with fail
  refine (fork_vec _).mono ?_
  rintro e w2 ⟨a, c, rfl, hr, hb2⟩
  have hb := hb1.trans (hb2.mono hb1.size)
  have b2 := HQ.out.below hb HQ.out.lt
  have z0 := b2.free 0
  have z1 := b2.cell 0
  go_wp2_with fail
  go_returns
  exact ⟨rfl, a, c, b2.set 0 _, hr.setOther b2 (by simp) _, grown_set (fun k hk _ => hb.block k hk) hb.os hb.tape hb.output hb.size q (.inl rfl) _⟩

set_option maxHeartbeats 1000000 in
theorem guard_vec (p q : Nat) (w : World) (h1 : Blk w p #[.string (mkS [40, 46, 46, 41])] 9) (h2 : Blk w q #[.slice none 0 0] 24) :
    Calls Tryz.prog 95 #[.func (.func 96) #[] #[.pointer (some ⟨p, 0, none⟩), .pointer (some ⟨q, 0, none⟩)]] w (VecB (.int .i64 0) q w) := by
  have hmf : ∀ (fn : Fn) (first cap : Array Value) (w : World), (Instr.makeFunc fn first cap).run Tryz.prog w = .ok (.func fn first cap) w := fun _ _ _ _ => rfl
  go_enter_defers Tryz.func95, Tryz.ntmps95
  go_wp2_with fail
  refine (vec_call p q _ (h1.alloc _) (h2.alloc _)).mono ?_
  rintro e w1 ⟨rfl, a, c, b1, hi, hg⟩
  have hne : w.heap.size ≠ q := fun e => by have := h2.lt; omega
  have be : Blk w1 w.heap.size #[.int .i64 0] 25 := (hg.block _ (by simp) (by simpa using hne)).trans (Blk.new w _ _)
  have z0 := be.cell 0
  have z1 := be.free 0
  have bq := b1.other ⟨w.heap.size, 0, none⟩ (fun e => hne e.symm) (.int .i64 0)
  have be2 := be.set 0 (.int .i64 0)
  have hg2 : w.grownBy (w1.setCell ⟨w.heap.size, 0, none⟩ (.int .i64 0)) (some q) := grown_set (fun k hk hk' => (hg.block k (by simp; omega) hk').trans (Below.heap_alloc w _ k hk)) hg.os hg.tape hg.output (Nat.le_trans (by simp) hg.size) _ (.inr (Nat.le_refl _)) _
  have hi2 : Ints (w1.setCell ⟨w.heap.size, 0, none⟩ (.int .i64 0)) a [0] := by
    rcases hi with h | ⟨g, o, ha, hgl, hc⟩
    · exact .inl h
    · refine .inr ⟨g, o, ha, Nat.lt_of_lt_of_le hgl (by simp), fun i u hu => ?_⟩
      by_cases he : (⟨g, o + i, none⟩ : Addr) = ⟨w.heap.size, 0, none⟩
      · rw [he]
        have hu0 : u = .int .i64 0 := by
          match i, hu with
          | 0, hu => simpa using hu.symm
          | i + 1, hu => simp at hu
        rw [hu0]
        exact be2.cell 0
      · exact (World.cell?_setCell_other _ _ _ _ (fun e => he e.symm)).trans (hc i u hu)
  go_wp2_with fail
  generalize w1.setCell ⟨w.heap.size, 0, none⟩ (.int .i64 0) = w2 at *
  have y0 : w2.cell? ⟨w.heap.size, 0, none⟩ = some (.int .i64 0) := be2.cell 0
  refine leaves_cons (f := 131) (args := #[.pointer (some ⟨w.heap.size, 0, none⟩)]) (by simp) (by simp [go_sem]) ?_
  refine (guard_idle ⟨w.heap.size, 0, none⟩ _).mono ?_
  rintro e u' w'' ⟨rfl, rfl, rfl⟩
  simp [Leaves, settle, results, Tryz.results95, go_sem, y0]
  exact ⟨rfl, a, c, bq, hi2, hg2⟩

set_option maxHeartbeats 1000000 in
/-- Vector("(..)") is the list of the number 0. -/
theorem vector1 (w : World) : Calls Tryz.prog 60 #[.string (mkS [40, 46, 46, 41])] w fun e w' => ∃ a c, e = .returned (.tuple #[.slice a 1 c, .int .i64 0]) ∧ Ints w' a [0] ∧ Below w.heap.size w w' := by
  have hmf : ∀ (fn : Fn) (first cap : Array Value) (w : World), (Instr.makeFunc fn first cap).run Tryz.prog w = .ok (.func fn first cap) w := fun _ _ _ _ => rfl
  go_enter Tryz.func60, Tryz.ntmps60
  go_wp2_with fail
  have hb := ((Below.refl _ w).alloc (Nat.le_refl _) (.cells #[.string (mkS [40, 46, 46, 41])] 9)).alloc (by simp) (.cells #[.slice none 0 0] 24)
  have b1 := (Blk.new w #[.string (mkS [40, 46, 46, 41])] 9).alloc (.cells #[.slice none 0 0] 24)
  have b2 := Blk.new (w.alloc (.cells #[.string (mkS [40, 46, 46, 41])] 9)) #[.slice none 0 0] 24
  rw [show (w.alloc (.cells #[.string (mkS [40, 46, 46, 41])] 9)).heap.size = w.heap.size + 1 by simp] at b2
  generalize (w.alloc (.cells #[.string (mkS [40, 46, 46, 41])] 9)).alloc (.cells #[.slice none 0 0] 24) = W at *
  refine (guard_vec w.heap.size (w.heap.size + 1) _ b1 b2).mono ?_
  rintro e w1 ⟨rfl, a, c, bq, hi, hg⟩
  have hb1 := hb.grown hg hb.size (by rintro k ⟨⟩; omega)
  have q0 := bq.cell 0
  have z0 := bq.free 0
  have bq2 := bq.set 0 (.slice a 1 c)
  have hi2 := hi.setOther bq (by simp) (.slice a 1 c)
  have hb2 := hb1.setCell (show w.heap.size ≤ w.heap.size + 1 by omega) (p := ⟨w.heap.size + 1, 0, none⟩) (.slice a 1 c)
  have HF := hid (And.intro hi2 hb2)
  have y0 := bq2.cell 0
  clear hi2 hb2 bq2 hi hg hb1 hb
  go_wp2_with fail
  generalize w1.setCell ⟨w.heap.size + 1, 0, none⟩ (.slice a 1 c) = W2 at *
  have y1 : W2.cell? ⟨w.heap.size + 1, 0, none⟩ = some (.slice a 1 c) := y0
  exact bodyPost_ret (v := .tuple #[.slice a 1 c, .int .i64 0]) (by simp [results, Tryz.results60, go_sem, y1]) rfl ⟨a, c, rfl, HF.out⟩

end Go.Proofs.YtkmpdcckgibkhaaGreat
