/-
  Walks: all lists of cuts, one by one.
-/
import Derived.Test.YtkmpdcckgibkhaaGreatSg
import Derived.Laws.EntriesVeiled
namespace Go.Proofs.YtkmpdcckgibkhaaGreat
open Go.RowKit

set_option maxHeartbeats 400000 in
theorem lists_any (many fr to : Int) (w : World) :
    Calls Tryz.prog 46 #[.int .i64 many, .int .i64 fr, .int .i64 to] w fun e w' =>
      e = .returned (.func (.func 82) #[] #[.pointer (some ⟨w.heap.size, 0, none⟩), .pointer (some ⟨w.heap.size + 1 + 1, 0, none⟩), .pointer (some ⟨w.heap.size + 1, 0, none⟩)]) ∧
      ((w.alloc (.cells #[.int .i64 many] 3)).alloc (.cells #[.int .i64 fr] 3)).alloc (.cells #[.int .i64 to] 3) = w' := by
  go_enter Tryz.func46, Tryz.ntmps46
  go_wp2
  go_ret
  exact ⟨rfl, rfl⟩

set_option maxHeartbeats 400000 in
theorem lists_iter (nb many fr to bm bt bf : Nat) (C₀ : Nat → Prop) (W : World) (hm : many ≤ 100) (ht : to ≤ 1000) (hf : fr ≤ 1000) (hnb : nb ≤ W.heap.size) (h1 : Blk W bm #[.int .i64 many] 3 ∧ ¬ C₀ bm) (h2 : Blk W bt #[.int .i64 to] 3 ∧ ¬ C₀ bt) (h3 : Blk W bf #[.int .i64 fr] 3) :
    Iter Tryz.prog 82 #[.pointer (some ⟨bm, 0, none⟩), .pointer (some ⟨bt, 0, none⟩), .pointer (some ⟨bf, 0, none⟩)] (ArgL nb) (nxt to many fr []) C₀ W := by
  intro l J Jx hJ hJx hY hC h0
  have q3 := h3.cell 0
  simp only [List.getElem?_toArray, List.getElem?_cons_zero] at q3
  have hb3 := h3.lt
  have hb1 := h1.1.lt
  have hb2 := h2.1.lt
  obtain ⟨W2, hW2⟩ : ∃ W2, W2 = (W.alloc (.cells #[.func (.yield l) #[] #[]] 100)).alloc (.cells #[.func (.func 83) #[] #[.pointer (some ⟨bm, 0, none⟩), .pointer (some ⟨W.heap.size, 0, none⟩), .pointer (some ⟨bt, 0, none⟩), .pointer (some ⟨W.heap.size + 1, 0, none⟩)]] 136) := ⟨_, rfl⟩
  have hb : Below W.heap.size W W2 := by rw [hW2]; exact ((Below.refl _ W).alloc (Nat.le_refl _) _).alloc (by simp) _
  have hst := Step.below hb hC
  have hE : Env l many to bm W.heap.size bt (W.heap.size + 1) C₀ W2 := by
    refine ⟨h1.1.step hst h1.2, ⟨?_, fun h => by have := hC _ h; omega⟩, h2.1.step hst h2.2, ⟨?_, fun h => by have := hC _ h; omega⟩⟩
    · rw [hW2]; exact (Blk.new W _ _).alloc _
    · rw [hW2]; exact Blk.mk' (by simp) rfl
  have CL := hid (ext_any l many to bm W.heap.size bt (W.heap.size + 1) nb J Jx (nxt to many fr []) hJ hm ht hY many none 0 [] fr [] [] C₀ W2 (by simp) (by omega) (Nat.le_trans hnb hb.size) hE ⟨Ints.nil _ _, fun _ => rfl, by simp, (fun g o e => by cases e), OwnR.nil _ _⟩ hst.lt (by simp) (hJ _ _ _ _ h0 hb))
  subst hW2
  clear h1 h2 h3 hE hst hY hJ hJx h0 hC hb
  go_enter Tryz.func82, Tryz.ntmps82
  go_wp2_with fail
  refine CL.out.mono ?_
  rintro e B ⟨b, rfl, p1, p2⟩
  have P1 := hid p1
  have P2 := hid p2
  clear p1 p2 CL
  go_wp2
  go_end0
  refine ⟨⟨_, rfl⟩, ?_⟩
  cases b
  · obtain ⟨C', pre, x, post, h1, h2⟩ := P2.out rfl
    exact ⟨C', .inr ⟨pre, x, post, h1, h2⟩⟩
  · obtain ⟨C', _, h2⟩ := P1.out rfl
    exact ⟨C', .inl (by simpa using h2)⟩

/-- What Least returns. -/
def RetCuts (l : List Int) (no : Int) (w : World) (e : Ending) (w' : World) : Prop := ∃ a c, e = .returned (.tuple #[.slice a l.length c, .int .i64 no]) ∧ Ints w' a l ∧ (a = none → c = 0) ∧ l.length ≤ c ∧ Below w.heap.size w w'

/-- The same, in memory of the call's own. -/
def RetCutsO (l : List Int) (no : Int) (w : World) (e : Ending) (w' : World) : Prop := ∃ a c, e = .returned (.tuple #[.slice a l.length c, .int .i64 no]) ∧ Ints w' a l ∧ (a = none → c = 0) ∧ l.length ≤ c ∧ Below w.heap.size w w' ∧ OwnR w.heap.size w' a c l
theorem RetCutsO.ret {l : List Int} {no : Int} {w w' : World} {e : Ending} (h : RetCutsO l no w e w') : RetCuts l no w e w' := by
  obtain ⟨a, c, h1, h2, h3, h4, h5, -⟩ := h
  exact ⟨a, c, h1, h2, h3, h4, h5⟩

/-- The first fair list among so many cuts. -/
def firstB (ring : Bool) (l : List UInt8) (many : Nat) : Option (List Int) := (nxt l.length many (if ring then 0 else 1) []).find? (testB ring l)

theorem firstB_srch (ring : Bool) (l : List UInt8) (many : Nat) : firstB ring l many = srch ring l [] many (if ring then 0 else 1) := rfl
end Go.Proofs.YtkmpdcckgibkhaaGreat
