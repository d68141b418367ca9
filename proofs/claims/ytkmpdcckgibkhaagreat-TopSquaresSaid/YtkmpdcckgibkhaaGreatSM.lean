/-
  Texts merged: Sr, Sa, Sb, Sc, Sd, Se, Sf, Sg, Sh, Si, Sk.
-/
import Derived.RangeFuncKeeps
import Derived.RangeFuncLeaves
import Derived.Test.YtkmpdcckgibkhaaGreatUA
import Derived.Test.YtkmpdcckgibkhaaGreatA
import Derived.Test.YtkmpdcckgibkhaaGreatChecked
import Derived.RangeFuncNested
import Derived.RangeFuncBound
import Derived.RangeFuncCalls
import Derived.TacticsInMore
import Derived.LoopNIn
import Derived.LoopIn
import Derived.Deep.RegionLaw
import Derived.Laws.EntriesVeiled
import Derived.Sort.LoopGhostIn
/-
  A law for a range over a function whose iterator makes memory and hands over what lies in it. No program.
-/
namespace Go.Proofs.YtkmpdcckgibkhaaGreat
open Go.RowKit

/-- The blocks outside M lie as they lay. -/
structure KeepsX (M : Nat → Prop) (A B : World) : Prop where
  size : A.heap.size ≤ B.heap.size
  same : ∀ k, k < A.heap.size → ¬ M k → B.heap[k]? = A.heap[k]?

theorem KeepsX.refl (M : Nat → Prop) (A : World) : KeepsX M A A := ⟨Nat.le_refl _, fun _ _ _ => rfl⟩
theorem KeepsX.trans {M : Nat → Prop} {A B C : World} (h : KeepsX M A B) (k : KeepsX M B C) : KeepsX M A C :=
  ⟨Nat.le_trans h.size k.size, fun i hi hm => (k.same i (Nat.lt_of_lt_of_le hi h.size) hm).trans (h.same i hi hm)⟩
theorem KeepsX.mono {M M' : Nat → Prop} {A B : World} (h : KeepsX M A B) (hm : ∀ k, M k → M' k) : KeepsX M' A B :=
  ⟨h.size, fun k hk hn => h.same k hk (fun x => hn (hm k x))⟩
theorem KeepsX.of_below {M : Nat → Prop} {A B : World} (h : Below A.heap.size A B) : KeepsX M A B :=
  ⟨h.size, fun k hk _ => h.block k hk⟩
theorem KeepsX.putObj {M : Nat → Prop} {A : World} {r : Nat} (o : Obj) (h : M r) : KeepsX M A (A.putObj r o) :=
  ⟨by simp, fun k _ hm => World.putObj_heap_other (fun e => hm (e ▸ h))⟩
theorem KeepsX.setCell {M : Nat → Prop} {A : World} {p : Addr} (v : Value) (h : M p.block) : KeepsX M A (A.setCell p v) :=
  ⟨by simp [World.setCell], fun k _ hm => Below.heap_setCell _ _ _ _ (fun e => hm (e ▸ h))⟩

/-- A word abides whatever is laid anew. -/
def Firm {β : Type} (J : β → (Nat → Prop) → World → Prop) : Prop := ∀ s C A B, J s C A → Below A.heap.size A B → J s C B

/-- The caller's blocks: those that it had, and blocks that it has laid since. -/
structure Grew (C C' : Nat → Prop) (A B : World) : Prop where
  old : ∀ k, C' k → C k ∨ A.heap.size ≤ k
  lt : ∀ k, C' k → k < B.heap.size
  keep : KeepsX C A B

/-- An iterator visits xs in order: at each call of yield the value handed over stands in 'Arg' to the element; a round writes blocks of the caller's alone ('C', and what it lays itself). -/
def Iter {β : Type} (P : Program) (g : Nat) (lb : Array Value) (Arg : β → Value → World → Prop) (xs : List β) (C₀ : Nat → Prop) (W : World) : Prop :=
  ∀ (l : Nat) (J Jx : List β → (Nat → Prop) → World → Prop), Firm J → Firm Jx →
    (∀ pre x post v C A, xs = pre ++ x :: post → J pre C A → (∀ k, C k → k < A.heap.size) → Arg x v A → YieldAt Fence.wide 0 P l #[v] A fun e B => ∃ C', Grew C C' A B ∧
      ((e = .returned (.bool true) ∧ J (pre ++ [x]) C' B) ∨ (e = .returned (.bool false) ∧ Jx (pre ++ [x]) C' B))) →
    (∀ k, C₀ k → k < W.heap.size) → J [] C₀ W →
    Calls P g (#[.func (.yield l) #[] #[]] ++ lb) W fun e B => (∃ v, e = .returned v) ∧ ∃ C', (J xs C' B ∨ ∃ pre x post, xs = pre ++ x :: post ∧ Jx (pre ++ [x]) C' B)

/-- How the body of a round may be left. -/
def roundX {β : Type} (C : Nat → Prop) (I : List β → (Nat → Prop) → World → Prop) (Ix : Code → List β → (Nat → Prop) → World → Prop) (s : List β) (W : World) : Exit → Act → World → Prop
  | .normal, _, W' => ∃ C', Grew C C' W W' ∧ I s C' W'
  | .ret, _, W' => ∃ C', Grew C C' W W' ∧ Ix .ret s C' W'
  | .exit id, _, W' => ∃ C', Grew C C' W W' ∧ Ix (.exit id) s C' W'
  | .goto t, _, W' => ∃ C', Grew C C' W W' ∧ Ix (.goto t) s C' W'
  | .panic _, _, _ => False
  | .outgrown, _, _ => False

/-- What the caller says of its own memory abides what is laid anew, and the turns of the loop's record. -/
def FirmX {β : Type} (l : Nat) (J : β → (Nat → Prop) → World → Prop) : Prop :=
  ∀ s C A B, J s C A → A.heap.size ≤ B.heap.size → B.os = A.os → B.tape = A.tape → B.output = A.output → (∀ k, k < A.heap.size → k ≠ l → B.heap[k]? = A.heap[k]?) → J s C B

/-- **The statement.** -/
theorem wp_range {β : Type} {P : Program} {g : Operand} {p : Tmp} {assign body : Code} {Q : Exit → Act → World → Prop} {a : Act} {w : World}
    {gf : Nat} {lb : Array Value} (hg : a.eval g = .func (.func gf) #[] lb) (eg : ∀ args w, (callFunc gf args).run P w = .ok (.enter gf args) w)
    (Arg : β → Value → World → Prop) (xs : List β) (C₀ : Nat → Prop)
    (hC : ∀ k, C₀ k → k < w.heap.size)
    (hArg : ∀ x v A l r o, Arg x v A → A.heap[l]? = some (.loop r) → Arg x v (A.putObj l (.loop o)))
    (hseq : ∀ W, W.heap.size = w.heap.size + 2 → Below w.heap.size w W → Iter P gf lb Arg xs (fun k => k = w.heap.size + 1 ∨ C₀ k) W)
    (I : List β → (Nat → Prop) → World → Prop) (Ix : Code → List β → (Nat → Prop) → World → Prop) (hI : FirmX (w.heap.size + 1) I) (hIx : ∀ c, FirmX (w.heap.size + 1) (Ix c))
    (h0 : ∀ W, Below w.heap.size w W → I [] C₀ W) (a₁ : Value → Act)
    (hassign : ∀ (v : Value) (W : World) (K : Act → World → Prop), K (a₁ v) W →
      assign.wpIn (Fence.wide.inRound (w.heap.size + 1)) 0 P (Exit.then K (fun _ _ _ => False)) { tmps := a.tmps.setIfInBounds p v, defers := [] } W)
    (hbody : ∀ (pre : List β) (x : β) (post : List β) (v : Value) (C : Nat → Prop) (W : World), xs = pre ++ x :: post → I pre C W → Arg x v W → w.heap.size + 2 ≤ W.heap.size → (∀ k, C k → k < W.heap.size ∧ k ≠ w.heap.size ∧ k ≠ w.heap.size + 1) → (∃ r, W.heap[w.heap.size + 1]? = some (Obj.loop r)) →
      body.wpIn (Fence.wide.inRound (w.heap.size + 1)) 0 P (roundX C I Ix (pre ++ [x]) W) (a₁ v) W)
    (hdone : ∀ C W, w.heap.size + 2 ≤ W.heap.size → I xs C W → W.heap[w.heap.size]? = some (.deferred (some [])) → Q .normal { a with defers := { target := .collected w.heap.size, args := #[] } :: a.defers } W)
    (hstop : ∀ c pre x post C W, w.heap.size + 2 ≤ W.heap.size → xs = pre ++ x :: post → Ix c (pre ++ [x]) C W → W.heap[w.heap.size]? = some (.deferred (some [])) → c.wpIn Fence.wide 0 P Q { a with defers := { target := .collected w.heap.size, args := #[] } :: a.defers } W) :
    (Code.rangeFunc g #[p] assign body).wpIn Fence.wide 0 P Q a w := by
  refine wpIn_rangeFunc ?_
  intro fn hfn
  obtain ⟨rec, hrec⟩ : ∃ rec : LoopState → Option Code → Loop, rec = fun st pe => { state := st, pending := pe, fn, tmps := a.tmps, params := #[p], assign, body, defers := w.heap.size } := ⟨_, rfl⟩
  obtain ⟨W1, hW1⟩ : ∃ W1, (w.alloc (.deferred (some []))).alloc (.loop (rec .ready none)) = W1 := ⟨_, rfl⟩
  have hL1 : W1.heap[w.heap.size + 1]? = some (.loop (rec .ready none)) := by
    rw [← hW1]; have := World.alloc_heap_new (w.alloc (.deferred (some []))) (.loop (rec .ready none)); rwa [World.size_alloc] at this
  have hK1 : W1.heap[w.heap.size]? = some (.deferred (some [])) := by
    rw [← hW1]; exact (Below.heap_alloc _ _ _ (by simp)).trans (World.alloc_heap_new w _)
  have hb1 : Below w.heap.size w W1 := by
    rw [← hW1]; exact ((Below.refl _ w).alloc (Nat.le_refl _) _).alloc (by simp) _
  have hs1 : W1.heap.size = w.heap.size + 2 := by rw [← hW1]; simp
  refine ⟨w.heap.size + 1, [{ target := .collected w.heap.size, args := #[] }], W1, { target := .fn (.func gf) lb, args := #[.func (.yield (w.heap.size + 1)) #[] #[]] }, W1, gf,
    #[.func (.yield (w.heap.size + 1)) #[] #[]] ++ lb, W1, ?_, ?_, ?_, ?_, (fun h => by simp [Fence.wide] at h), ?_⟩
  · rw [← hW1, hrec]; exact run_enterLoop_outer _ _ _ _ _
  · simp only [resolve, hg]
    simp [go_sem]
  · intro f' hf'; trivial
  · simp [invoke, go_sem, eg]
  · refine callsIn_wide.2 ((hseq W1 hs1 hb1 (w.heap.size + 1)
      (fun pre C W => ∃ Cc : Nat → Prop, (∀ k, C k ↔ (k = w.heap.size + 1 ∨ Cc k)) ∧ (∀ k, Cc k → k < w.heap.size ∨ w.heap.size + 2 ≤ k) ∧ I pre Cc W ∧ W.heap[w.heap.size + 1]? = some (.loop (rec .ready none)) ∧ W.heap[w.heap.size]? = some (.deferred (some [])) ∧ w.heap.size + 2 ≤ W.heap.size)
      (fun pre C W => ∃ (Cc : Nat → Prop) (c : Code), Ix c pre Cc W ∧ W.heap[w.heap.size + 1]? = some (.loop (rec .done (some c))) ∧ W.heap[w.heap.size]? = some (.deferred (some [])) ∧ w.heap.size + 2 ≤ W.heap.size)
      ?_ ?_ ?_ ?_ ⟨C₀, fun k => Iff.rfl, fun k hk => .inl (hC k hk), h0 _ hb1, hL1, hK1, by omega⟩).mono ?_)
    · rintro s C A B ⟨Cc, g1, g2, h1, h2, h3, h4⟩ hb
      exact ⟨Cc, g1, g2, hI s Cc A B h1 hb.size hb.os hb.tape hb.output (fun k hk _ => hb.block k hk), (hb.block _ (by omega)).trans h2, (hb.block _ (by omega)).trans h3, Nat.le_trans h4 hb.size⟩
    · rintro s C A B ⟨Cc, c, h1, h2, h3, h4⟩ hb
      exact ⟨Cc, c, hIx c s Cc A B h1 hb.size hb.os hb.tape hb.output (fun k hk _ => hb.block k hk), (hb.block _ (by omega)).trans h2, (hb.block _ (by omega)).trans h3, Nat.le_trans h4 hb.size⟩
    · -- one round
      rintro pre x post v C A hx ⟨Cc, g1, g2, hi, hl, hk, hsz⟩ hCA harg
      have hlt : w.heap.size + 1 < A.heap.size := by omega
      have hy : (Instr.yield (w.heap.size + 1) #[v]).run P A = .ok (.round (w.heap.size + 1) fn (a.tmps.setIfInBounds p v) assign body) A := by
        have h := run_yield (P := P) (args := #[v]) hl (by rw [hrec]; rfl)
        rw [hrec] at h
        simpa using h
      refine ⟨fn, _, assign, body, hy, roundIn_of_wpIn hfn ?_⟩
      refine hassign v A _ ?_
      refine ⟨_, run_beginRound hl (by rw [hrec]), ?_⟩
      have hl2 : (A.putObj (w.heap.size + 1) (.loop { rec .ready none with state := .busy })).heap[w.heap.size + 1]? = some (.loop { rec .ready none with state := .busy }) := World.putObj_heap_same hlt
      have hk2 : (A.putObj (w.heap.size + 1) (.loop { rec .ready none with state := .busy })).heap[w.heap.size]? = some (.deferred (some [])) := (World.putObj_heap_other (by omega)).trans hk
      have hput : ∀ (c : Code) (s : List β) (D : Nat → Prop) (X : World) (o : Obj), (I s D X → I s D (X.putObj (w.heap.size + 1) o)) ∧ (Ix c s D X → Ix c s D (X.putObj (w.heap.size + 1) o)) := fun c s D X o =>
        ⟨fun h => hI s D X _ h (by simp) rfl rfl rfl (fun k _ hne => World.putObj_heap_other hne), fun h => hIx c s D X _ h (by simp) rfl rfl rfl (fun k _ hne => World.putObj_heap_other hne)⟩
      have hk0 : KeepsX C A (A.putObj (w.heap.size + 1) (.loop { rec .ready none with state := .busy })) := KeepsX.putObj _ ((g1 _).2 (.inl rfl))
      have hCc : ∀ k, Cc k → k < (A.putObj (w.heap.size + 1) (.loop { rec .ready none with state := .busy })).heap.size ∧ k ≠ w.heap.size ∧ k ≠ w.heap.size + 1 := fun k hk => by
        have h1 := hCA k ((g1 k).2 (.inr hk))
        have h2 := g2 k hk
        refine ⟨by simpa using h1, ?_, ?_⟩ <;> omega
      refine wpIn_mono (hbody pre x post v Cc _ hx ((hput .skip _ _ _ _).1 hi) (hArg _ _ _ _ _ _ harg hl) (by simpa using hsz) hCc ⟨_, hl2⟩) ?_
      have fin : ∀ (jump : Option Code) (W3 : World) (C' : Nat → Prop), Grew Cc C' (A.putObj (w.heap.size + 1) (.loop { rec .ready none with state := .busy })) W3 →
          (Instr.endRound (w.heap.size + 1) jump).run P W3 = .ok (.bool jump.isNone) (W3.putObj (w.heap.size + 1) (.loop (rec (if jump.isNone then .ready else .done) jump))) ∧
          (W3.putObj (w.heap.size + 1) (.loop (rec (if jump.isNone then .ready else .done) jump))).heap[w.heap.size + 1]? = some (.loop (rec (if jump.isNone then .ready else .done) jump)) ∧
          (W3.putObj (w.heap.size + 1) (.loop (rec (if jump.isNone then .ready else .done) jump))).heap[w.heap.size]? = some (.deferred (some [])) ∧
          w.heap.size + 2 ≤ (W3.putObj (w.heap.size + 1) (.loop (rec (if jump.isNone then .ready else .done) jump))).heap.size ∧
          (∀ k, C' k → k < w.heap.size ∨ w.heap.size + 2 ≤ k) ∧
          Grew C (fun k => k = w.heap.size + 1 ∨ C' k) A (W3.putObj (w.heap.size + 1) (.loop (rec (if jump.isNone then .ready else .done) jump))) := fun jump W3 C' hg3 => by
        have hk3 := hg3.keep
        have hs3 := hk3.size
        simp at hs3
        have hl3 := (hk3.same (w.heap.size + 1) (by simpa using hlt) (fun h => (hCc _ h).2.2 rfl)).trans hl2
        have hd3 := (hk3.same w.heap.size (by simp; omega) (fun h => (hCc _ h).2.1 rfl)).trans hk2
        have := run_endRound (P := P) jump hl3
        rw [hrec] at this ⊢
        refine ⟨this, World.putObj_heap_same (by omega), (World.putObj_heap_other (by omega)).trans hd3, by simp; omega, ?_, ?_, ?_, ?_⟩
        · intro k hk
          rcases hg3.old k hk with h | h
          · exact g2 k h
          · simp at h; omega
        · rintro k (rfl | hk)
          · exact .inl ((g1 _).2 (.inl rfl))
          · rcases hg3.old k hk with h | h
            · exact .inl ((g1 _).2 (.inr h))
            · simp at h; exact .inr h
        · rintro k (rfl | hk)
          · simp; omega
          · simpa using hg3.lt k hk
        · rw [hrec] at hk0 hk3
          exact (hk0.trans (hk3.mono fun k h => (g1 k).2 (.inr h))).trans (KeepsX.putObj _ ((g1 _).2 (.inl rfl)))
      rintro e a3 W3 hp
      cases e with
      | normal =>
        obtain ⟨C', hk3, hi3⟩ := hp
        obtain ⟨hr, hl4, hk4, hs4, hc4, hk5⟩ := fin none W3 C' hk3
        exact ⟨_, _, hr, _, hk5, .inl ⟨rfl, C', fun k => Iff.rfl, hc4, (hput .skip _ _ _ _).1 hi3, hl4, hk4, hs4⟩⟩
      | ret =>
        obtain ⟨C', hk3, hi3⟩ := hp
        obtain ⟨hr, hl4, hk4, hs4, hc4, hk5⟩ := fin (some .ret) W3 C' hk3
        exact ⟨_, _, hr, _, hk5, .inr ⟨rfl, C', .ret, (hput .ret _ _ _ _).2 hi3, hl4, hk4, hs4⟩⟩
      | exit id =>
        obtain ⟨C', hk3, hi3⟩ := hp
        obtain ⟨hr, hl4, hk4, hs4, hc4, hk5⟩ := fin (some (.exit id)) W3 C' hk3
        exact ⟨_, _, hr, _, hk5, .inr ⟨rfl, C', .exit id, (hput (.exit id) _ _ _ _).2 hi3, hl4, hk4, hs4⟩⟩
      | goto t =>
        obtain ⟨C', hk3, hi3⟩ := hp
        obtain ⟨hr, hl4, hk4, hs4, hc4, hk5⟩ := fin (some (.goto t)) W3 C' hk3
        exact ⟨_, _, hr, _, hk5, .inr ⟨rfl, C', .goto t, (hput (.goto t) _ _ _ _).2 hi3, hl4, hk4, hs4⟩⟩
      | panic ch => exact hp.elim
      | outgrown => exact hp.elim
    · rintro k (rfl | hk)
      · omega
      · have := hC k hk; omega
    · -- behind the iterator
      rintro e W2 ⟨⟨v, rfl⟩, C', (⟨Cc, _, _, hi, hl, hk, hs⟩ | ⟨pre, x, post, hx, Cc, c, hi, hl, hk, hs⟩)⟩
      · refine ⟨none, _, by have := run_endLoop (P := P) hl (by rw [hrec]; simp); rw [hrec] at this; exact this, hdone Cc _ (by simpa using hs) ?_ ((World.putObj_heap_other (by omega)).trans hk)⟩
        exact hI _ _ _ _ hi (by simp) rfl rfl rfl (fun k _ hne => World.putObj_heap_other hne)
      · refine ⟨some c, _, by have := run_endLoop (P := P) hl (by rw [hrec]; simp); rw [hrec] at this; exact this, hstop c pre x post Cc _ (by simpa using hs) hx ?_ ((World.putObj_heap_other (by omega)).trans hk)⟩
        exact hIx c _ _ _ _ hi (by simp) rfl rfl rfl (fun k _ hne => World.putObj_heap_other hne)

/-- The marks that range-over-function loops have left among the deferred calls: distinct blocks from B on, each with no call. -/
def MarksOk (B : Nat) (ds : List Deferred) (w : World) : Prop :=
  ∃ Ds : List Nat, ds = Ds.map (fun D => { target := .collected D, args := #[] }) ∧ Ds.Nodup ∧ ∀ D ∈ Ds, B ≤ D ∧ D < w.heap.size ∧ w.heap[D]? = some (.deferred (some []))

theorem MarksOk.nil (B : Nat) (w : World) : MarksOk B [] w := ⟨[], rfl, by simp, by simp⟩
theorem MarksOk.cons {B D : Nat} {ds : List Deferred} {w : World} (h : MarksOk B ds w) (hB : B ≤ D) (hD : w.heap[D]? = some (.deferred (some []))) (hn : ∀ k, { target := .collected k, args := #[] } ∈ ds → k ≠ D) : MarksOk B ({ target := .collected D, args := #[] } :: ds) w := by
  obtain ⟨Ds, rfl, h2, h3⟩ := h
  refine ⟨D :: Ds, rfl, List.nodup_cons.2 ⟨fun hm => hn D (List.mem_map.2 ⟨D, hm, rfl⟩) rfl, h2⟩, fun k hk => ?_⟩
  rcases List.mem_cons.1 hk with rfl | hk
  · exact ⟨hB, lt_of_block hD, hD⟩
  · exact h3 k hk
theorem MarksOk.keeps {B : Nat} {ds : List Deferred} {w w' : World} (h : MarksOk B ds w) (hs : w.heap.size ≤ w'.heap.size) (hk : ∀ k, B ≤ k → k < w.heap.size → w.heap[k]? = some (.deferred (some [])) → w'.heap[k]? = w.heap[k]?) : MarksOk B ds w' := by
  obtain ⟨Ds, h1, h2, h3⟩ := h
  exact ⟨Ds, h1, h2, fun D hD => by
    obtain ⟨a, b, c⟩ := h3 D hD
    exact ⟨a, Nat.lt_of_lt_of_le b hs, (hk D a b c).trans c⟩⟩

/-- What leaving past marks does to memory: the marks' blocks are shut. -/
structure ShutM (B : Nat) (w w' : World) : Prop where
  below : Below B w w'
  same : ∀ k : Nat, (∀ d, w.heap[k]? ≠ some (Obj.deferred d)) → w'.heap[k]? = w.heap[k]?
theorem ShutM.refl (B : Nat) (w : World) : ShutM B w w := ⟨Below.refl _ _, fun _ _ => rfl⟩
theorem ShutM.vals {B : Nat} {w w' : World} (h : ShutM B w w') {a : Option Addr} {l : List Value} (hv : Vals w a l) : Vals w' a l := by
  rcases hv with h0 | ⟨g, o, ha, hg, hc⟩
  · exact .inl h0
  · by_cases hl : l = []
    · exact .inl hl
    · refine .inr ⟨g, o, ha, Nat.lt_of_lt_of_le hg h.below.size, fun i u hu => ?_⟩
      have h1 := hc i u hu
      rw [World.cell?_of_block (h.same g (fun d e => by simp [World.cell?, e] at h1))]
      exact h1

/-- A function leaves past its marks. -/
theorem leaves_marks {P : Program} {fn : Func} {tmps : Array Value} {R : Ending → World → Prop} {B : Nat} {v : Value} : ∀ (ds : List Deferred) (w : World), MarksOk B ds w → B ≤ w.heap.size →
    (∀ w', ShutM B w w' → (results fn tmps).run P w' = .ok v w') → (∀ w', ShutM B w w' → R (.returned v) w') → LeavesInM Fence.wide 0 P fn tmps R ds .returning w := by
  intro ds
  induction ds with
  | nil => intro w _ _ h1 h2; exact ⟨v, h1 w (ShutM.refl _ _), h2 w (ShutM.refl _ _)⟩
  | cons d ds ih =>
    intro w hm hB h1 h2
    obtain ⟨Ds, he, hnd, hall⟩ := hm
    cases Ds with
    | nil => cases he
    | cons D Ds =>
      simp only [List.map_cons, List.cons.injEq] at he
      obtain ⟨rfl, rfl⟩ := he
      obtain ⟨hBD, hlt, hD⟩ := hall D (by simp)
      have hb : Below B w (w.putObj D (.deferred none)) := (Below.refl B w).grown (grownBy_putObj' w D _) hB (fun k e => by cases e; exact hBD)
      have hsh : ∀ w', ShutM B (w.putObj D (.deferred none)) w' → ShutM B w w' := fun w' h => ⟨hb.trans h.below, fun k hk => by
        have hkD : k ≠ D := fun e => by subst e; exact hk _ hD
        have e1 : (w.putObj D (.deferred none)).heap[k]? = w.heap[k]? := World.putObj_heap_other hkD
        rw [h.same k (fun d => by rw [e1]; exact hk d), e1]⟩
      refine ⟨by simp, .inl ⟨D, _, rfl, run_takeDeferred hD, ih _ ?_ (by simpa using hB) (fun w' h => h1 w' (hsh w' h)) (fun w' h => h2 w' (hsh w' h))⟩⟩
      rw [List.nodup_cons] at hnd
      refine ⟨Ds, rfl, hnd.2, fun k hk => ?_⟩
      obtain ⟨a, b, c⟩ := hall k (List.mem_cons_of_mem _ hk)
      exact ⟨a, by simpa using b, (World.putObj_heap_other (fun e : k = D => hnd.1 (by rw [← e]; exact hk))).trans c⟩

theorem ShutM.blk {B : Nat} {w w' : World} (h : ShutM B w w') {b : Nat} {cs : Array Value} {t : TypeId} (hb : Blk w b cs t) : Blk w' b cs t :=
  (h.same b (fun d e => by rw [hb] at e; cases e)).trans hb

/-- A slice that reads as a list, its row not block n. -/
def ValsX (n : Nat) (w : World) (a : Option Addr) (vs : List Value) : Prop := Vals w a vs ∧ (vs = [] ∨ ∀ g o, a = some ⟨g, o, none⟩ → g ≠ n)
theorem ValsX.of {n : Nat} {w : World} {a : Option Addr} {vs : List Value} {r : Loop} (h : Vals w a vs) (hn : w.heap[n]? = some (.loop r)) : ValsX n w a vs := by
  refine ⟨h, ?_⟩
  rcases h with h | ⟨g, o, ha, _, hc⟩
  · exact .inl h
  · cases vs with
    | nil => exact .inl rfl
    | cons x xs =>
      refine .inr fun g' o' e => ?_
      rw [ha] at e; cases e
      have := hc 0 x rfl
      intro e; subst e
      simp [World.cell?, hn] at this
theorem ValsX.firm {n : Nat} {w w' : World} {a : Option Addr} {vs : List Value} (h : ValsX n w a vs) (hs : w.heap.size ≤ w'.heap.size) (hk : ∀ k, k < w.heap.size → k ≠ n → w'.heap[k]? = w.heap[k]?) : ValsX n w' a vs := by
  refine ⟨?_, h.2⟩
  rcases h.1 with h1 | ⟨g, o, ha, hg, hc⟩
  · exact .inl h1
  · rcases h.2 with h2 | h2
    · exact .inl h2
    · exact .inr ⟨g, o, ha, Nat.lt_of_lt_of_le hg hs, fun i u hu => (World.cell?_of_block (hk g hg (h2 g o ha))).trans (hc i u hu)⟩

theorem FirmX.below {β : Type} {l B : Nat} {w : World} (hw : B ≤ w.heap.size) (hl : B ≤ l) : FirmX l (fun (_ : β) _ W => Below B w W) :=
  fun _ _ A C h hs ho ht hp hk => h.trans ⟨ho, ht, hp, hs, fun k hkB => hk k (by have := h.size; omega) (by omega)⟩
theorem FirmX.blk {β : Type} {l b : Nat} {t : TypeId} (f : β → Array Value) (hl : b ≠ l) : FirmX l (fun (s : β) _ W => Blk W b (f s) t) :=
  fun _ _ _ _ h _ _ _ _ hk => (hk b h.lt hl).trans h
theorem FirmX.pure {β : Type} {l : Nat} (p : β → (Nat → Prop) → Prop) : FirmX l (fun (s : β) C _ => p s C) := fun _ _ _ _ h _ _ _ _ _ => h
theorem FirmX.and {β : Type} {l : Nat} {I J : β → (Nat → Prop) → World → Prop} (h : FirmX l I) (h' : FirmX l J) : FirmX l (fun s C W => I s C W ∧ J s C W) :=
  fun s C A B hs a b c d e => ⟨h s C A B hs.1 a b c d e, h' s C A B hs.2 a b c d e⟩
theorem FirmX.ex {β γ : Type} {l : Nat} {I : γ → β → (Nat → Prop) → World → Prop} (h : ∀ c, FirmX l (I c)) : FirmX l (fun s C W => ∃ c, I c s C W) :=
  fun s C A B ⟨c, hs⟩ a b d e f => ⟨c, h c s C A B hs a b d e f⟩
theorem FirmX.false {β : Type} {l : Nat} : FirmX l (fun (_ : β) _ _ => False) := fun _ _ _ _ h _ _ _ _ _ => h
theorem Grew.refl {C : Nat → Prop} {A B : World} (h : KeepsX C A B) (hC : ∀ k, C k → k < A.heap.size) : Grew C C A B :=
  ⟨fun _ h => .inl h, fun k hk => Nat.lt_of_lt_of_le (hC k hk) h.size, h⟩
end Go.Proofs.YtkmpdcckgibkhaaGreat
/-
  What the walks of the layer seals speak of.
-/
namespace Go.Proofs.YtkmpdcckgibkhaaGreat
open Go.RowKit

/-- Is a byte a letter from a to d? -/
def okb (c : UInt8) : Bool := decide (97 ≤ c.toNat) && decide (c.toNat ≤ 100)
theorem all_ok (c : UInt8) (r : List UInt8) (h : 97 ≤ (c.toNat : Int) ∧ (c.toNat : Int) ≤ 100) : (c :: r).all okb = r.all okb := by
  have : okb c = true := by simp [okb]; omega
  simp [this]
theorem all_bad (c : UInt8) (r : List UInt8) (h : (c.toNat : Int) < 97 ∨ 100 < (c.toNat : Int)) : (c :: r).all okb = false := by
  have : okb c = false := by simp [okb]; omega
  simp [this]
/-- A chain. -/
def chainB (l : List UInt8) : Bool := l.all okb && decide (l.length ≤ 24)
/-- How often letter j occurs. -/
def cn (l : List UInt8) (j : Nat) : Nat := l.countP (fun c => c.toNat == 97 + j)
theorem cn_snoc (l : List UInt8) (c : UInt8) (j : Nat) : cn (l ++ [c]) j = cn l j + if c.toNat = 97 + j then 1 else 0 := by
  unfold cn
  rw [List.countP_append]
  by_cases h : c.toNat = 97 + j <;> simp [h]
theorem cn_cons (l : List UInt8) (c : UInt8) (j : Nat) : cn (c :: l) j = cn l j + if c.toNat = 97 + j then 1 else 0 := by
  unfold cn
  rw [List.countP_cons]
  by_cases h : c.toNat = 97 + j <;> simp [h]
theorem cn_append (a b : List UInt8) (j : Nat) : cn (a ++ b) j = cn a j + cn b j := List.countP_append
theorem cn_le (l : List UInt8) (j : Nat) : cn l j ≤ l.length := List.countP_le_length
theorem okb_iff (c : UInt8) : okb c = true ↔ 97 ≤ c.toNat ∧ c.toNat ≤ 100 := by simp [okb]
/-- Each letter occurs an even number of times. -/
def evenB (l : List UInt8) : Bool := cn l 0 % 2 == 0 && cn l 1 % 2 == 0 && cn l 2 % 2 == 0 && cn l 3 % 2 == 0
/-- The number of letters that occur. -/
def kindsN (l : List UInt8) : Nat := min (cn l 0) 1 + min (cn l 1) 1 + min (cn l 2) 1 + min (cn l 3) 1
/-- Ascending positions from a first one to n - 1. -/
def cutsB (n : Int) : Int → List Int → Bool
  | _, [] => true
  | first, c :: r => decide (first ≤ c) && decide (c < n) && cutsB n (c + 1) r
/-- What the carrier of the next piece gets, and the other one, from a position on. -/
def shareGo (l : List UInt8) : Nat → List Int → List UInt8 × List UInt8
  | at_, [] => (l.drop at_, [])
  | at_, c :: r => ((l.drop at_).take (c.toNat - at_) ++ (shareGo l c.toNat r).2, (shareGo l c.toNat r).1)
/-- Do two strings have the same letters? -/
def sameB (a b : List UInt8) : Bool := cn a 0 == cn b 0 && cn a 1 == cn b 1 && cn a 2 == cn b 2 && cn a 3 == cn b 3
/-- Are cuts fair? -/
def fairB (l : List UInt8) (cuts : List Int) : Bool := sameB (shareGo l 0 cuts).1 (shareGo l 0 cuts).2
/-- All lists of so many ascending positions, in lexicographic order: 'fuel' positions are left from 'from_' on. -/
def lsts : Nat → Nat → Nat → List (List Int)
  | 0, _, _ => [[]]
  | _ + 1, _, 0 => []
  | m + 1, from_, fuel + 1 => (lsts m (from_ + 1) fuel).map ((from_ : Int) :: ·) ++ lsts (m + 1) (from_ + 1) fuel
/-- A ring opened at its first cut. -/
def openL (l : List UInt8) : List Int → List UInt8
  | [] => l
  | c :: _ => l.drop c.toNat ++ l.take c.toNat
def openC : List Int → List Int
  | [] => []
  | c :: r => r.map (· - c)
def fairRingP (l : List UInt8) (cuts : List Int) : Bool := fairB (openL l cuts) (openC cuts)

theorem mod_eq (a b : Int) (h : 0 < b) (hb : b ≤ 1000) (_ha : -9223372036854775808 ≤ a ∧ a ≤ 9223372036854775807) : wrap64 ((IntKind.u64.wrap a).tmod (IntKind.u64.wrap b)) = (a % 18446744073709551616) % b := by
  have h1 : IntKind.u64.wrap b = b := IntWalk.u64_in _ (by omega)
  have h2 : IntKind.u64.wrap a = a % 18446744073709551616 := by simp [IntKind.wrap, IntKind.bits, IntKind.signed]
  rw [h1, h2, IntWalk.rem_in _ _ (by omega)]
  exact IntWalk.wrap64_in _ (by have := Int.emod_nonneg (a % 18446744073709551616) (show b ≠ 0 by omega); have := Int.emod_lt_of_pos (a % 18446744073709551616) h; omega)
theorem letter_lt (s : ByteArray) (k : Nat) (h : s.data.toList.all okb = true) (hk : k < s.size) : 97 ≤ s[k].toNat ∧ s[k].toNat ≤ 100 := by
  rw [List.all_eq_true] at h
  exact (okb_iff _).1 (h s[k] (byte_mem s k hk))
def cutsLoop (n first : Int) : Option Int → List Int → Bool
  | _, [] => true
  | none, c :: r => decide (first ≤ c) && decide (c < n) && cutsLoop n first (some c) r
  | some p, c :: r => decide (first ≤ c) && decide (c < n) && decide (p < c) && cutsLoop n first (some c) r
def pv (l : List Int) (k : Nat) : Option Int := if k = 0 then none else l[k - 1]?
theorem pv_succ (l : List Int) (k : Nat) (x : Int) (h : l[k]? = some x) : pv l (k + 1) = some x := by simp [pv, h]

def kSum (f : Nat → Nat) : Nat → Nat
  | 0 => 0
  | k + 1 => kSum f k + min (f k) 1
theorem kSum_le (f : Nat → Nat) (k : Nat) : kSum f k ≤ k := by
  induction k with
  | zero => simp [kSum]
  | succ k ih => simp [kSum]; omega
/-- The loop of the reference's Shares: carrier, position, the cuts that are left, what both have. -/
def shLoop (l : List UInt8) : Nat → Nat → List Int → List UInt8 → List UInt8 → List UInt8 × List UInt8
  | 0, fr, [], a, b => (a ++ l.drop fr, b)
  | _ + 1, fr, [], a, b => (a, b ++ l.drop fr)
  | 0, fr, c :: r, a, b => shLoop l 1 c.toNat r (a ++ (l.drop fr).take (c.toNat - fr)) b
  | _ + 1, fr, c :: r, a, b => shLoop l 0 c.toNat r a (b ++ (l.drop fr).take (c.toNat - fr))
def ShRel (l : List UInt8) (n : Nat) (cuts : List Int) (tgt : List UInt8 × List UInt8) (k car fr : Nat) (x y : ByteArray) : Prop :=
  (k ≤ cuts.length ∧ shLoop l car fr (cuts.drop k) x.data.toList y.data.toList = tgt ∧ (∃ p : Int, (fr : Int) ≤ p ∧ cutsB n p (cuts.drop k) = true) ∧ fr ≤ n ∧ x.size + y.size ≤ fr) ∨ (k = cuts.length + 1 ∧ (x.data.toList, y.data.toList) = tgt)
theorem shLoop_all (l : List UInt8) (h : l.all okb = true) : ∀ (cuts : List Int) (car fr : Nat) (a b : List UInt8), a.all okb = true → b.all okb = true → (shLoop l car fr cuts a b).1.all okb = true ∧ (shLoop l car fr cuts a b).2.all okb = true := by
  have hd : ∀ n, (l.drop n).all okb = true := fun n => by
    rw [List.all_eq_true] at h ⊢; exact fun x hx => h x (List.mem_of_mem_drop hx)
  have ht : ∀ n m, ((l.drop n).take m).all okb = true := fun n m => by
    have := hd n; rw [List.all_eq_true] at this ⊢; exact fun x hx => this x (List.mem_of_mem_take hx)
  intro cuts
  induction cuts with
  | nil => intro car fr a b ha hb; cases car <;> simp only [shLoop, List.all_append, ha, hb, hd, Bool.and_self, and_self]
  | cons c r ih =>
    intro car fr a b ha hb
    cases car
    · exact ih _ _ _ _ (by rw [List.all_append, ha, ht]; rfl) hb
    · exact ih _ _ _ _ ha (by rw [List.all_append, hb, ht]; rfl)
theorem shLoop_len (l : List UInt8) : ∀ (cuts : List Int) (car fr : Nat) (a b : List UInt8), (shLoop l car fr cuts a b).1.length ≤ a.length + (cuts.length + 1) * l.length ∧ (shLoop l car fr cuts a b).2.length ≤ b.length + (cuts.length + 1) * l.length := by
  intro cuts
  induction cuts with
  | nil => intro car fr a b; cases car <;> simp [shLoop] <;> omega
  | cons c r ih =>
    intro car fr a b
    have e : (r.length + 1 + 1) * l.length = (r.length + 1) * l.length + l.length := by rw [Nat.add_mul, Nat.one_mul]
    have hle : ((l.drop fr).take (c.toNat - fr)).length ≤ l.length := by simp; omega
    cases car
    · have := ih 1 c.toNat (a ++ (l.drop fr).take (c.toNat - fr)) b
      rw [List.length_append] at this
      simp only [shLoop, List.length_cons, e]
      omega
    · have := ih 0 c.toNat a (b ++ (l.drop fr).take (c.toNat - fr))
      rw [List.length_append] at this
      simp only [shLoop, List.length_cons, e]
      omega
theorem shLoop_share (l : List UInt8) : ∀ (cuts : List Int) (fr : Nat) (a b : List UInt8),
    shLoop l 0 fr cuts a b = (a ++ (shareGo l fr cuts).1, b ++ (shareGo l fr cuts).2) ∧ shLoop l 1 fr cuts a b = (a ++ (shareGo l fr cuts).2, b ++ (shareGo l fr cuts).1) := by
  intro cuts
  induction cuts with
  | nil => intro fr a b; simp [shLoop, shareGo]
  | cons c r ih =>
    intro fr a b
    refine ⟨?_, ?_⟩
    · rw [shLoop, (ih _ _ _).2]; simp [shareGo]
    · rw [shLoop, (ih _ _ _).1]; simp [shareGo]
theorem eqi (a b : Int) (w : World) : (Op.equalIn 9999 3 (.int .i64 a) (.int .i64 b)).run Tryz.prog w = .ok (a == b) w :=
  run_equalIn_int w 9998 3 .i64 .i64 a b Tryz.underlying3

/-- Do cuts divide a ring fairly? -/
def fairRingB (l : List UInt8) : List Int → Bool
  | [] => l.isEmpty
  | c :: r => fairB (l.drop c.toNat ++ l.take c.toNat) (r.map (· - c))
theorem cutsB_ge (n : Int) : ∀ (l : List Int) (f : Int), cutsB n f l = true → ∀ x ∈ l, f ≤ x ∧ x < n := by
  intro l
  induction l with
  | nil => intro f _ x hx; simp at hx
  | cons c r ih =>
    intro f h x hx
    simp only [cutsB, Bool.and_eq_true, decide_eq_true_eq] at h
    rcases List.mem_cons.1 hx with rfl | hx
    · exact h.1
    · have := ih _ h.2 x hx; omega
theorem cutsB_sub (n : Int) : ∀ (l : List Int) (f c : Int), cutsB n f l = true → 0 ≤ c → cutsB n (f - c) (l.map (· - c)) = true := by
  intro l
  induction l with
  | nil => intro f c _ _; rfl
  | cons x r ih =>
    intro f c h hc
    simp only [cutsB, Bool.and_eq_true, decide_eq_true_eq] at h
    have := ih (x + 1) c h.2 hc
    simp only [List.map_cons, cutsB, Bool.and_eq_true, decide_eq_true_eq]
    rw [show x + 1 - c = x - c + 1 by omega] at this
    exact ⟨⟨by omega, by omega⟩, this⟩
theorem cutsB_weak (n : Int) (l : List Int) (f g : Int) (h : cutsB n f l = true) (hg : g ≤ f) : cutsB n g l = true := by
  cases l with
  | nil => rfl
  | cons x r =>
    simp only [cutsB, Bool.and_eq_true, decide_eq_true_eq] at h ⊢
    exact ⟨⟨by omega, h.1.2⟩, h.2⟩

/-- Are cuts of a chain, or of a ring, fair? -/
def testB (ring : Bool) (l : List UInt8) (c : List Int) : Bool := if ring then fairRingB l c else fairB l c
/-- The first fair list that begins with some cuts and has so many more from a position on. -/
def srch (ring : Bool) (l : List UInt8) (cuts : List Int) (more from_ : Nat) : Option (List Int) :=
  ((lsts more from_ (l.length - from_)).map (cuts ++ ·)).find? (testB ring l)
theorem srch_zero (ring : Bool) (l : List UInt8) (cuts : List Int) (f : Nat) : srch ring l cuts 0 f = if testB ring l cuts then some cuts else none := by
  simp [srch, lsts]
theorem srch_end (ring : Bool) (l : List UInt8) (cuts : List Int) (m f : Nat) (h : l.length ≤ f) : srch ring l cuts (m + 1) f = none := by
  simp [srch, Nat.sub_eq_zero_of_le h, lsts]
theorem srch_step (ring : Bool) (l : List UInt8) (cuts : List Int) (m f : Nat) (h : f < l.length) :
    srch ring l cuts (m + 1) f = (srch ring l (cuts ++ [(f : Int)]) m (f + 1)).or (srch ring l cuts (m + 1) (f + 1)) := by
  obtain ⟨d, hd⟩ : ∃ d, l.length = f + 1 + d := ⟨l.length - (f + 1), by omega⟩
  unfold srch
  rw [show l.length - f = d + 1 by omega, show l.length - (f + 1) = d by omega, lsts, List.map_append, List.find?_append, List.map_map]
  rw [show ((fun x => cuts ++ x) ∘ fun x => (f : Int) :: x) = (fun x => cuts ++ [(f : Int)] ++ x) from funext fun x => by simp]
theorem ret2_sb {a : Option Addr} {n c : Nat} {b b' : Bool} (h : b = b') : Ending.returned (.tuple #[.slice a n c, .bool b]) = .returned (.tuple #[.slice a n c, .bool b']) := by rw [h]
theorem if_isSome {α : Type} (b : Bool) (x : α) : b = (if b then some x else none).isSome := by cases b <;> rfl
/-- What search returns. -/
def RetSearch (res : Option (List Int)) (w : World) (e : Ending) (w' : World) : Prop :=
  ∃ a c L ok, e = .returned (.tuple #[.slice a L.length c, .bool ok]) ∧ ok = res.isSome ∧ Ints w' a L ∧ (a = none → c = 0) ∧ L.length ≤ 1000 ∧ (∀ r, res = some r → L = r) ∧ Below w.heap.size w w'
theorem cutsB_snoc (n : Int) (l : List Int) (f k : Int) (h : cutsB n f l = true) (hk : ∀ x ∈ l, x < k) (hf : f ≤ k) (hn : k < n) : cutsB n f (l ++ [k]) = true := by
  induction l generalizing f with
  | nil => simp [cutsB]; omega
  | cons x r ih =>
    simp only [cutsB, Bool.and_eq_true, decide_eq_true_eq, List.cons_append] at h ⊢
    refine ⟨h.1, ih (x + 1) h.2 (fun y hy => hk y (List.mem_cons_of_mem _ hy)) ?_⟩
    have := hk x (by simp); omega
theorem cutsB_last (n : Int) : ∀ (l : List Int) (f : Int), cutsB n f l = true → ∀ x ∈ l, ∀ y, l.getLast? = some y → x ≤ y := by
  intro l
  induction l with
  | nil => intro f _ x hx; simp at hx
  | cons c r ih =>
    intro f h x hx y hy
    simp only [cutsB, Bool.and_eq_true, decide_eq_true_eq] at h
    cases r with
    | nil => simp at hx hy; omega
    | cons d r' =>
      rw [List.getLast?_cons_cons] at hy
      rcases List.mem_cons.1 hx with rfl | hx
      · have h1 := ih _ h.2 d (by simp) y hy
        have h2 := cutsB_ge _ _ _ h.2 d (by simp)
        omega
      · exact ih _ h.2 x hx y hy

/-- The first list that is found at all. -/
def tryN (f : Nat → Option (List Int)) : List Nat → Option (List Int)
  | [] => none
  | n :: r => (f n).or (tryN f r)
theorem infoS3 : (Tryz.prog.info? 3).map (fun i => (i.zero, i.size, i.bytes)) = some (some (.int .i64 0), 1, 8) := by kernel_rfl
end Go.Proofs.YtkmpdcckgibkhaaGreat
/-
  Walks: counting letters, chains.
-/
namespace Go.Proofs.YtkmpdcckgibkhaaGreat
open Go.RowKit

set_option maxHeartbeats 400000 in
theorem of_any (s : ByteArray) (w : World) (hs : s.size ≤ 1000000) (h : s.data.toList.all okb = true) :
    Calls Tryz.prog 44 #[.string s] w fun e w' => e = .returned (.agg #[.int .i64 (cn s.data.toList 0), .int .i64 (cn s.data.toList 1), .int .i64 (cn s.data.toList 2), .int .i64 (cn s.data.toList 3)]) ∧ Below w.heap.size w w' := by
  have hcv := run_bytesW (P := Tryz.prog) 9 71 5 s Tryz.underlying9 Tryz.underlying71 Tryz.underlying5
  go_enter Tryz.func44, Tryz.ntmps44
  go_wp2
  clear hcv
  go_loopw [9] (fun i wr => ∃ k : Nat, k ≤ s.size ∧ i = .int .i64 k ∧ Below w.heap.size w wr ∧ Blk wr w.heap.size (arr4 fun _ => 0) 82 ∧ 
     Blk wr (w.heap.size + 1) (arr4 fun j => cn (s.data.toList.take k) j) 82 ∧ Hid (∀ j (hj : j < s.size), wr.cell? ⟨w.heap.size + 2, j, none⟩ = some (.int .u8 s[j].toNat))) (fun i _ => s.size - (intOf i).toNat)
  case atStart => 
    refine ⟨0, Nat.zero_le _, rfl, bytesW_below _ _ (((Below.refl _ _).alloc (Nat.le_refl _) _).alloc (by simp) _) (by simp; omega), ?_, ?_, ?_⟩
    · exact (((Blk.new w _ _).alloc _).below (B := w.heap.size + 2) (bytesW_below _ _ (Below.refl _ _) (by simp)) (by omega))
    · exact (Blk.mk' (by simp) (by simp [arr4, cn])).below (B := w.heap.size + 2) (bytesW_below _ _ (Below.refl _ _) (by simp)) (by omega)
    · intro j hj
      have := bytesW_cell 5 ((w.alloc (.cells #[.int .i64 0, .int .i64 0, .int .i64 0, .int .i64 0] 82)).alloc (.cells #[.int .i64 0, .int .i64 0, .int .i64 0, .int .i64 0] 82)) s j hj
      simpa using this
  case round =>
    obtain ⟨k, hk, rfl, hB, R, H, HC⟩ := hrel
    by_cases hlt : k < s.size
    · have hl := letter_lt s k h hlt
      have hb1 := cn_le (s.data.toList.take k) (s[k].toNat - 97)
      have hb2 : (s.data.toList.take k).length ≤ k := List.length_take_le _ _
      have hcc := H.cell4 (s[k].toNat - 97) (by omega)
      have hff := H.free (s[k].toNat - 97)
      have hq := HC.out k hlt
      generalize hv : cn (s.data.toList.take k) (s[k].toNat - 97) = v at *
      have HV := hid hv
      clear hv
      go_wp2
      refine ⟨⟨k + 1, by omega, by go_num, hB.setCell (Nat.le_succ _) _, R.other _ (by simp) _, H.store4 _ _ (by omega) ?_, ?_⟩, by simp [intOf]; omega⟩
      · intro i hi
        rw [take_succ_bytes s k hlt, cn_snoc]
        split
        · rename_i he; rw [if_pos (by omega), ← HV.out, show i = s[k].toNat - 97 by omega]; simp
        · rename_i he; rw [if_neg (by omega)]; simp
      · intro j hj
        rw [World.cell?_of_block (Below.heap_setCell _ _ _ _ (by simp))]
        exact HC.out j hj
    · rw [take_all_bytes s k (by omega)] at H
      obtain ⟨q0, q1, q2, q3, -⟩ := H.all4
      obtain ⟨r0, r1, r2, r3, f0, f1, f2, f3⟩ := R.all4
      go_wp2
      refine bodyPost_ret (v := .agg #[.int .i64 (cn s.data.toList 0), .int .i64 (cn s.data.toList 1), .int .i64 (cn s.data.toList 2), .int .i64 (cn s.data.toList 3)]) (by simp [results, Tryz.results44, go_sem, r0, r1, r2, r3]) rfl ⟨rfl, ?_⟩
      exact (((hB.setCell (Nat.le_refl _) _).setCell (Nat.le_refl _) _).setCell (Nat.le_refl _) _).setCell (Nat.le_refl _) _

set_option maxHeartbeats 400000 in
theorem isChain1_any (c : UInt8) (w : World) :
    Calls Tryz.prog 102 #[.int .u8 c.toNat] w fun e w' => e = .returned (.bool (!okb c)) ∧ w = w' := by
  go_enter Tryz.func102, Tryz.ntmps102
  go_wp2
  all_goals (go_ret; exact ⟨ret_bool (by rw [Bool.eq_iff_iff]; simp [okb]; omega), rfl⟩)


def allokB (l : List UInt8) : Bool := l.all okb
def RetIdx (b : Bool) (w : World) (e : Ending) (w' : World) : Prop := ∃ r : Int, e = .returned (.int .i64 r) ∧ decide (0 ≤ r) = b ∧ w = w'

set_option maxHeartbeats 400000 in
theorem indexByte_any (g c : Nat) (s : ByteArray) (w : World) (hs : s.size ≤ 1000000) (hc : ∀ k (h : k < s.size), w.cell? ⟨g, k, none⟩ = some (.int .u8 s[k].toNat)) :
    Calls Tryz.prog 136 #[.slice (some ⟨g, 0, none⟩) s.size c, .func (.func 102) #[] #[]] w (RetIdx (!allokB s.data.toList) w) := by
  have HC := hid hc
  clear hc
  go_enter Tryz.func136, Tryz.ntmps136
  go_wp2_with fail
  go_loop [8] (fun i => ∃ k : Nat, k ≤ s.size ∧ i = .int .i64 k ∧ Hid (allokB s.data.toList = allokB (s.data.toList.drop k))) (fun i => s.size - (intOf i).toNat)
  case atStart => exact ⟨0, Nat.zero_le _, rfl, rfl⟩
  case round =>
    obtain ⟨k, hk, rfl, HK⟩ := hrel
    by_cases hlt : k < s.size
    · have hq := HC.out k hlt
      have H2 := hid (bytes_drop s k hlt)
      by_cases hok : okb s[k] = true
      · have hfin : allokB s.data.toList = allokB (s.data.toList.drop (k + 1)) := by rw [HK.out, H2.out]; simp [allokB, hok]
        have HF := hid hfin
        have HO := hid hok
        clear hfin hok
        go_wp2_with (go_at_call 102; refine (isChain1_any s[k] _).mono ?_; rintro e w1 ⟨rfl, rfl⟩; rw [HO.out]; simp only [Bool.not_true])
        go_round
        case rel => exact ⟨k + 1, by omega, by go_num, HF⟩
        case measure => simp [intOf]; omega
      · have hok' : okb s[k] = false := by simpa using hok
        have hfin : allokB s.data.toList = false := by rw [HK.out, H2.out]; simp [allokB, hok']
        have HF := hid hfin
        have HO := hid hok'
        clear hfin hok hok'
        go_wp2_with (go_at_call 102; refine (isChain1_any s[k] _).mono ?_; rintro e w1 ⟨rfl, rfl⟩; rw [HO.out]; simp only [Bool.not_false])
        go_ret
        exact ⟨k, rfl, by rw [HF.out]; simp, rfl⟩
    · have hfin : allokB s.data.toList = true := by rw [HK.out, bytes_drop_end s k (by omega)]; rfl
      have HF := hid hfin
      clear hfin
      go_wp2
      go_ret
      exact ⟨-1, rfl, by rw [HF.out]; rfl, rfl⟩

set_option maxHeartbeats 400000 in
theorem containsByte_any (g c : Nat) (s : ByteArray) (w : World) (hs : s.size ≤ 1000000) (hc : ∀ k (h : k < s.size), w.cell? ⟨g, k, none⟩ = some (.int .u8 s[k].toNat)) :
    Calls Tryz.prog 101 #[.slice (some ⟨g, 0, none⟩) s.size c, .func (.func 102) #[] #[]] w fun e w' => e = .returned (.bool (!allokB s.data.toList)) ∧ w = w' := by
  have HC := hid (indexByte_any g c s w hs hc)
  clear hc
  go_enter Tryz.func101, Tryz.ntmps101
  go_wp2_with fail
  refine HC.out.mono ?_
  rintro e w1 ⟨r, rfl, hr, rfl⟩
  have HR := hid hr
  clear hr
  go_wp2
  go_ret
  exact ⟨ret_bool HR.out, rfl⟩

set_option maxHeartbeats 400000 in
theorem isChain_any (s : ByteArray) (w : World) (hs : s.size ≤ 1000000) :
    Calls Tryz.prog 66 #[.string s] w fun e w' => e = .returned (.bool (chainB s.data.toList)) ∧ Below w.heap.size w w' := by
  have hcv := run_bytesW (P := Tryz.prog) 9 71 5 s Tryz.underlying9 Tryz.underlying71 Tryz.underlying5
  have HC := hid (containsByte_any w.heap.size (bytesC 5 w s) s (bytesW 5 w s) hs (bytesW_cell 5 w s))
  have hfin : chainB s.data.toList = (allokB s.data.toList && decide (s.size ≤ 24)) := rfl
  have HF := hid hfin
  clear hfin
  by_cases hl : s.size ≤ 24
  · have hd : decide ((s.size : Int) ≤ 24) = true := by simp; omega
    go_enter Tryz.func66, Tryz.ntmps66
    go_wp2_with (go_at_call 101; refine HC.out.mono ?_; rintro e w1 ⟨rfl, rfl⟩)
    go_ret
    exact ⟨ret_bool (by rw [HF.out]; simp [hl]), bytesW_below _ _ (Below.refl _ _) (Nat.le_refl _)⟩
  · have hd : decide ((s.size : Int) ≤ 24) = false := by simp; omega
    go_enter Tryz.func66, Tryz.ntmps66
    go_wp2_with fail
    go_ret
    exact ⟨ret_bool (by rw [HF.out]; simp [hl]), Below.refl _ _⟩
end Go.Proofs.YtkmpdcckgibkhaaGreat
/-
  Walks: visiting the counts of letters.
-/
namespace Go.Proofs.YtkmpdcckgibkhaaGreat
open Go.RowKit
attribute [local go_sem] Oper.semAt_some

def four (f : Nat → Int) : List Int := [f 0, f 1, f 2, f 3]
theorem four_split (f : Nat → Int) (k : Nat) (h : k < 4) : four f = (four f).take k ++ f k :: (four f).drop (k + 1) ∧ (four f).take (k + 1) = (four f).take k ++ [f k] := by
  match k, h with
  | 0, _ => exact ⟨rfl, rfl⟩
  | 1, _ => exact ⟨rfl, rfl⟩
  | 2, _ => exact ⟨rfl, rfl⟩
  | 3, _ => exact ⟨rfl, rfl⟩
theorem run_index4 (f : Nat → Int) (k : Nat) (h : k < 4) (w : World) : (Instr.index 82 (.agg #[.int .i64 (f 0), .int .i64 (f 1), .int .i64 (f 2), .int .i64 (f 3)]) (.int .i64 k)).run Tryz.prog w = .ok (.int .i64 (f k)) w := by
  match k, h with
  | 0, _ => (show _ = _; kernel_rfl)
  | 1, _ => (show _ = _; kernel_rfl)
  | 2, _ => (show _ = _; kernel_rfl)
  | 3, _ => (show _ = _; kernel_rfl)

set_option maxHeartbeats 400000 in
theorem each_iter (f : Nat → Int) (B : Nat) (C₀ : Nat → Prop) (W : World) (hB : Blk W B (arr4 f) 82) :
    Iter Tryz.prog 104 #[.pointer (some ⟨B, 0, none⟩)] (fun x v _ => v = Value.int .i64 x) (four f) C₀ W := by
  intro l J Jx hJ hJx hY hC h0
  obtain ⟨q0, q1, q2, q3, -⟩ := hB.all4
  have HY := hid hY
  have HC := hid hC
  have H0 := hid h0
  clear hY hC h0 hJ hJx hB
  refine (callsIn_wide (n := 0)).1 (callsIn_of_wp Tryz.func104 rfl trivial ?_ rfl)
  simp only [Tryz.ntmps104, List.size_toArray, List.length_cons, List.length_nil, Nat.reduceAdd, Nat.reduceSub, Array.replicate_succ, Array.replicate_zero, List.push_toArray, List.append_toArray, List.nil_append, List.cons_append]
  gi_wp2
  gi_loopw [6] (fun i wr => ∃ (k : Nat) (C : Nat → Prop), k ≤ 4 ∧ i = .int .i64 k ∧ Hid (J ((four f).take k) C wr ∧ ∀ j, C j → j < wr.heap.size)) (fun i _ => 4 - (intOf i).toNat)
  case atStart => exact ⟨0, C₀, by omega, rfl, H0.out, HC.out⟩
  case round =>
    obtain ⟨k, C, hk, rfl, HJ⟩ := hrel
    by_cases hlt : k < 4
    · have i0 := run_index4 f k hlt
      obtain ⟨fn, tmps, assign, body, hy, hR⟩ := HY.out _ (f k) _ _ C wr (four_split f k hlt).1 HJ.out.1 HJ.out.2 rfl
      have HR := hid hR
      clear hR
      gi_wp2
      refine ⟨rfl, HR.out.mono ?_⟩
      rintro e W' ⟨C', hG, (⟨rfl, hJ'⟩ | ⟨rfl, hJx'⟩)⟩
      · have HJ2 : Hid (J ((four f).take (k + 1)) C' W' ∧ ∀ j, C' j → j < W'.heap.size) := ⟨by rw [(four_split f k hlt).2]; exact hJ', hG.lt⟩
        clear hG hJ' HR i0 hy
        gi_wp2
        go_roundw
        case rel => exact ⟨k + 1, C', by omega, by go_num, HJ2⟩
        case measure => simp [intOf]; omega
      · have HJ2 := hid (And.intro (four_split f k hlt).1 hJx')
        clear hG hJx' HR i0 hy
        gi_wp2
        refine bodyPost_ret (results_none rfl _ _ _) rfl ?_
        exact ⟨⟨_, rfl⟩, C', .inr ⟨_, _, _, HJ2.out.1, HJ2.out.2⟩⟩
    · gi_wp2
      go_end0
      exact ⟨⟨_, rfl⟩, C, .inl (by have := HJ.out.1; rwa [show k = 4 by omega] at this)⟩
end Go.Proofs.YtkmpdcckgibkhaaGreat
namespace Go.Proofs.YtkmpdcckgibkhaaGreat
open Go.RowKit
attribute [local go_sem] Oper.semAt_some

set_option maxHeartbeats 400000 in
theorem each_any (c0 c1 c2 c3 : Int) (w : World) :
    Calls Tryz.prog 68 #[.agg #[.int .i64 c0, .int .i64 c1, .int .i64 c2, .int .i64 c3]] w fun e w' =>
      e = .returned (.func (.func 104) #[] #[.pointer (some ⟨w.heap.size, 0, none⟩)]) ∧ w.alloc (.cells #[.int .i64 c0, .int .i64 c1, .int .i64 c2, .int .i64 c3] 82) = w' := by
  go_enter Tryz.func68, Tryz.ntmps68
  go_wp2
  go_ret
  exact ⟨rfl, rfl⟩

/-- What AppendSeq holds between two rounds. -/
def AppI (b0 l : Nat) (w : World) (s : List Int) (C : Nat → Prop) (W : World) : Prop :=
  ∃ v, Blk W b0 #[v] 24 ∧ W.ownsRow (w.heap.size + 1) 3 1 v s.length (s.map (Value.int .i64)) ∧ (∀ g, v.ownBlock = some g → C g ∧ g ≠ l) ∧ C b0 ∧ b0 ≠ l ∧ Below w.heap.size w W

theorem ownsRow_same {w w' : World} {base e size n : Nat} {v : Value} {xs : List Value} (h : w.ownsRow base e size v n xs) (hk : ∀ g, v.ownBlock = some g → w'.heap[g]? = w.heap[g]?) : w'.ownsRow base e size v n xs := by
  refine ⟨h.1, ?_⟩
  rcases h.2 with h2 | ⟨g, cap, cur, hv, hg, hh, r⟩
  · exact .inl h2
  · exact .inr ⟨g, cap, cur, hv, hg, by rw [hk g (by rw [hv]; rfl)]; exact hh, r⟩

theorem AppI_firm (b0 l : Nat) (w : World) (hl : w.heap.size ≤ l) : FirmX l (AppI b0 l w) := by
  rintro s C A B ⟨v, h1, h2, h3, h4, h5, h6⟩ hs ho ht hp hk
  exact ⟨v, (hk _ h1.lt h5).trans h1, ownsRow_same h2 (fun g hg => hk g (h2.lt g hg).2 (h3 g hg).2), h3, h4, h5, h6.trans ⟨ho, ht, hp, hs, fun k hkB => hk k (by have := h6.size; omega) (by omega)⟩⟩

set_option maxHeartbeats 1000000 in
theorem appendSeq_any (f : Nat → Int) (B : Nat) (w : World) (hB : Blk w B (arr4 f) 82) :
    Calls Tryz.prog 103 #[.slice none 0 0, .func (.func 104) #[] #[.pointer (some ⟨B, 0, none⟩)]] w (RetInts (four f) w) := by
  have HB := hid hB
  clear hB
  refine (callsIn_wide (n := 0)).1 (callsIn_of_wp_marks Tryz.func103 rfl trivial ?_ rfl)
  simp only [Tryz.ntmps103, List.size_toArray, List.length_cons, List.length_nil, Nat.reduceAdd, Nat.reduceSub, Array.replicate_succ, Array.replicate_zero, List.push_toArray, List.append_toArray, List.nil_append, List.cons_append]
  gi_wp2
  have hsz : (w.alloc (.cells #[.slice none 0 0] 24)).heap.size = w.heap.size + 1 := by simp
  have HSZ := hid hsz
  have hnb : B ≠ w.heap.size := by have := HB.out.lt; omega
  have HNB := hid hnb
  clear hsz hnb
  refine wp_range (gf := 104) (lb := #[.pointer (some ⟨B, 0, none⟩)]) rfl Tryz.call104 (fun x v _ => v = Value.int .i64 x) (four f) (fun k => k = w.heap.size) ?_ (fun x v A l r o h _ => h) ?_
    (AppI w.heap.size (w.heap.size + 2) w) (fun _ _ _ _ => False) ?_ (fun _ => FirmX.false) ?_
    (fun v => { tmps := #[.slice none 0 0, .func (.func 104) #[] #[.pointer (some ⟨B, 0, none⟩)], .pointer (some ⟨w.heap.size, 0, none⟩), undef, .slice none 0 0, v, .func (.func 104) #[] #[.pointer (some ⟨B, 0, none⟩)], v, undef, undef, undef, undef, undef], defers := [] }) ?_ ?_ ?_ ?_
  · rintro k rfl; rw [HSZ.out]; omega
  · intro W hW hb
    refine each_iter f B _ W ?_
    exact (HB.out.alloc _).below hb (by rw [HSZ.out]; have := HB.out.lt; omega)
  · rw [HSZ.out]; exact AppI_firm _ _ _ (by omega)
  · intro W hb
    rw [HSZ.out] at hb
    exact ⟨_, (Blk.new w _ _).below hb (by omega), World.ownsRow_nil _ _ _ _, (by intro g hg; simp [Value.ownBlock] at hg), rfl, by omega, ((Below.refl _ w).alloc (Nat.le_refl _) _).trans (hb.mono (by omega))⟩
  · intro v W K hK
    gi_wp2
    exact hK
  · rintro pre x post v C W hx ⟨v0, h1, h2, h3, h4, h5, h6⟩ rfl hsz hC -
    have hlen : pre.length ≤ 4 := by
      have := congrArg List.length hx
      simp [four] at this; omega
    have hc := h1.cell 0
    have hf := h1.free 0
    simp only [List.getElem?_toArray, List.getElem?_cons_zero] at hc
    have H1 := hid h1
    have H2 := hid h2
    have H3 := hid h3
    have HX := hid hx
    have HC := hid hC
    clear h1 h2 h3 hx hC
    gi_wp2_with (gi_at_builtin; go_must (refine wpListIn_app _ rfl (.tmp 8) (.tmp 10) 24 rfl (w.heap.size + 1) 3 (.int .i64 0) 8 Tryz.underlying24 infoS3 rfl _ pre.length _ rfl (H2.out.alloc _) (some ⟨W.heap.size, 0, none⟩) 1 1 [.int .i64 x] rfl rfl (vals_new _ _ _ _ rfl) (fun h => by cases h) (by simp [Value.oneCell']) (by omega) (by omega) (by have := HSZ.out; simp; omega) ?_))
    intro v' w1 hown' hgrow hwh
    have hWs : w.heap.size + 3 ≤ W.heap.size := by have := HSZ.out; omega
    have hnbox : some w.heap.size ≠ v0.ownBlock := fun e => by have := (H2.out.lt _ e.symm).1; omega
    have h1w : Blk w1 w.heap.size #[v0] 24 := (hgrow.block _ (by simp; omega) hnbox).trans (H1.out.alloc _)
    have hb1 : Below w.heap.size w w1 := (h6.alloc h6.size _).grown hgrow (by simp; omega) (fun k hk => by have := (H2.out.lt k hk).1; omega)
    obtain ⟨L2, hL2⟩ : ∃ L2, L2 = pre ++ [x] := ⟨_, rfl⟩
    have hown' : w1.ownsRow (w.heap.size + 1) 3 1 v' L2.length (L2.map (Value.int .i64)) := by rw [hL2]; simpa using hown'
    obtain ⟨a', c', rfl, -⟩ := ownsRow_ints (l := L2) hown'
    have HL2 := hid hL2
    clear hL2
    have hc1 := h1w.cell 0
    have hf1 := h1w.free 0
    simp only [List.getElem?_toArray, List.getElem?_cons_zero] at hc1
    have HOW := hid hown'
    have HG := hid hgrow
    have HW := hid hwh
    have H1W := hid h1w
    clear hown' hgrow hwh h1w hnbox
    gi_wp2
    have hgs := HG.out.size
    simp at hgs
    have hnew : ∀ g, (Value.slice a' L2.length c').ownBlock = some g → (C g ∨ (g = W.heap.size + 1)) ∧ g ≠ w.heap.size := by
      intro g hg
      refine ⟨?_, ?_⟩
      · rcases HW.out with e | e
        · exact .inl (H3.out g (e ▸ hg)).1
        · rw [hg] at e; simp at e; exact .inr e
      · have := (HOW.out.lt g hg).1; omega
    refine ⟨fun k => C k ∨ k = W.heap.size + 1 ∧ k < w1.heap.size, ⟨?_, ?_, ?_⟩, _, H1W.out.set 0 _, ?_, ?_, .inl h4, h5, hb1.setCell (Nat.le_refl _) _⟩
    · rintro k (h | h)
      · exact .inl h
      · exact .inr (by omega)
    · rintro k (h | h)
      · have := (HC.out k h).1; simp [World.setCell]; omega
      · simpa [World.setCell] using h.2
    · refine ((KeepsX.of_below (Below.refl _ W |>.alloc (Nat.le_refl _) _)).trans ⟨HG.out.size, fun k hk hm => HG.out.block k hk (fun e => hm (H3.out k e.symm).1)⟩).trans (KeepsX.setCell _ h4)
    · have := ownsRow_same HOW.out (w' := w1.setCell ⟨w.heap.size, 0, none⟩ (.slice a' L2.length c')) (fun g hg => Below.heap_setCell _ _ _ _ (hnew g hg).2)
      rw [HL2.out] at this ⊢; exact this
    · intro g hg
      have hg' : (Value.slice a' L2.length c').ownBlock = some g := hg
      have hlt := (HOW.out.lt g hg').2
      rcases (hnew g hg').1 with h | h
      · exact ⟨.inl h, by have := (HC.out g h).2.2; have := HSZ.out; omega⟩
      · exact ⟨.inr ⟨h, hlt⟩, by omega⟩
  · rintro C W hsz ⟨v0, h1, h2, h3, h4, h5, h6⟩ hD
    have hc := h1.cell 0
    simp only [List.getElem?_toArray, List.getElem?_cons_zero] at hc
    have H2 := hid h2
    have HD := hid hD
    have hds := HSZ.out
    obtain ⟨a', c', rfl, hr⟩ := ownsRow_ints (l := four f) h2
    have HR := hid hr
    clear h1 h2 hD hr
    gi_wp2
    refine leaves_marks (B := (w.alloc (.cells #[.slice none 0 0] 24)).heap.size) _ W ((MarksOk.nil _ _).cons (Nat.le_refl _) HD.out (by simp)) (by omega) (fun W' _ => results_tmp (fn := Tryz.f103) (t := 4) rfl _ _ _) ?_
    intro W' hb
    exact ⟨a', c', rfl, hb.vals HR.out, h6.trans (hb.below.mono (by omega))⟩
  · rintro c pre x post C W _ _ h _
    exact h.elim
end Go.Proofs.YtkmpdcckgibkhaaGreat
/-
  Walks: even chains, kinds.
-/
namespace Go.Proofs.YtkmpdcckgibkhaaGreat
open Go.RowKit

set_option maxHeartbeats 400000 in
theorem collect_any (f : Nat → Int) (B : Nat) (w : World) (hB : Blk w B (arr4 f) 82) :
    Calls Tryz.prog 67 #[.func (.func 104) #[] #[.pointer (some ⟨B, 0, none⟩)]] w (RetInts (four f) w) := by
  have HC := hid (appendSeq_any f B w hB)
  clear hB
  go_enter Tryz.func67, Tryz.ntmps67
  go_wp2_with fail
  refine HC.out.mono ?_
  rintro e w1 ⟨a, c, rfl, hr, hb⟩
  have HR := hid hr
  clear hr
  go_wp2
  go_ret
  exact ⟨a, c, rfl, HR.out, hb⟩

set_option maxHeartbeats 400000 in
theorem isEven1_any (n : Nat) (w : World) :
    Calls Tryz.prog 69 #[.int .i64 n] w fun e w' => e = .returned (.bool (n % 2 == 1)) ∧ w = w' := by
  go_enter Tryz.func69, Tryz.ntmps69
  go_wp2
  go_ret
  exact ⟨ret_bool (by rw [Bool.eq_iff_iff]; simp; omega), rfl⟩

def oddAny (l : List Nat) : Bool := l.any (fun n => n % 2 == 1)

set_option maxHeartbeats 400000 in
theorem indexInt_any (a : Option Addr) (c : Nat) (l : List Nat) (w : World) (hl : l.length ≤ 1000) (ha : Ints w a (l.map (Int.ofNat ·))) :
    Calls Tryz.prog 86 #[.slice a l.length c, .func (.func 69) #[] #[]] w (RetIdx (oddAny l) w) := by
  have HA := hid ha
  clear ha
  go_enter Tryz.func86, Tryz.ntmps86
  go_wp2_with fail
  go_loop [8] (fun i => ∃ k : Nat, k ≤ l.length ∧ i = .int .i64 k ∧ Hid (oddAny l = oddAny (l.drop k))) (fun i => l.length - (intOf i).toNat)
  case atStart => exact ⟨0, Nat.zero_le _, rfl, rfl⟩
  case round =>
    obtain ⟨k, hk, rfl, HK⟩ := hrel
    by_cases hlt : k < l.length
    · obtain ⟨x, hx, hx2⟩ : ∃ x, l[k]? = some x ∧ l.drop k = x :: l.drop (k + 1) := ⟨l[k], List.getElem?_eq_getElem hlt, by rw [List.drop_eq_getElem_cons hlt]⟩
      obtain ⟨g, o, rfl, hg, hcell⟩ := HA.out.at (by simp; omega)
      have hq : w.cell? ⟨g, o + k, none⟩ = some (.int .i64 x) := hcell k x (by rw [List.getElem?_map, hx]; rfl)
      have H2 := hid hx2
      clear hcell hx hx2
      by_cases ho : x % 2 = 1
      · have hfin : oddAny l = true := by rw [HK.out, H2.out]; simp [oddAny, ho]
        have HF := hid hfin
        have HO : Hid ((x % 2 == 1) = true) := by simp [Hid, ho]
        clear hfin ho
        go_wp2_with (go_at_call 69; refine (isEven1_any x _).mono ?_; rintro e w1 ⟨rfl, rfl⟩; rw [HO.out])
        go_ret
        exact ⟨k, rfl, by rw [HF.out]; simp, rfl⟩
      · have hfin : oddAny l = oddAny (l.drop (k + 1)) := by rw [HK.out, H2.out]; simp [oddAny, ho]
        have HF := hid hfin
        have HO : Hid ((x % 2 == 1) = false) := by simp [Hid]; omega
        clear hfin ho
        go_wp2_with (go_at_call 69; refine (isEven1_any x _).mono ?_; rintro e w1 ⟨rfl, rfl⟩; rw [HO.out])
        go_round
        case rel => exact ⟨k + 1, by omega, by go_num, HF⟩
        case measure => simp [intOf]; omega
    · have hfin : oddAny l = false := by rw [HK.out, List.drop_eq_nil_of_le (by omega)]; rfl
      have HF := hid hfin
      clear hfin
      go_wp2
      go_ret
      exact ⟨-1, rfl, by rw [HF.out]; rfl, rfl⟩

set_option maxHeartbeats 400000 in
theorem containsInt_any (a : Option Addr) (c : Nat) (l : List Nat) (w : World) (hl : l.length ≤ 1000) (ha : Ints w a (l.map (Int.ofNat ·))) :
    Calls Tryz.prog 54 #[.slice a l.length c, .func (.func 69) #[] #[]] w fun e w' => e = .returned (.bool (oddAny l)) ∧ w = w' := by
  have HC := hid (indexInt_any a c l w hl ha)
  clear ha
  go_enter Tryz.func54, Tryz.ntmps54
  go_wp2_with fail
  refine HC.out.mono ?_
  rintro e w1 ⟨r, rfl, hr, rfl⟩
  have HR := hid hr
  clear hr
  go_wp2
  go_ret
  exact ⟨ret_bool HR.out, rfl⟩

/-- An even chain. -/
def evenChainB (l : List UInt8) : Bool := chainB l && evenB l

set_option maxHeartbeats 400000 in
theorem isEven_any (s : ByteArray) (w : World) (hs : s.size ≤ 1000000) :
    Calls Tryz.prog 38 #[.string s] w fun e w' => e = .returned (.bool (evenChainB s.data.toList)) ∧ Below w.heap.size w w' := by
  cases hch : chainB s.data.toList with
  | false =>
    have HC := hid hch
    clear hch
    go_enter Tryz.func38, Tryz.ntmps38
    go_wp2_with (go_at_call 66; refine (isChain_any s _ hs).mono ?_; rintro e w1 ⟨rfl, hb⟩; rw [HC.out])
    go_ret
    exact ⟨ret_bool (by simp [evenChainB, HC.out]), hb⟩
  | true =>
    have hok : s.data.toList.all okb = true := by simp [chainB] at hch; simpa using hch.1
    have HC := hid hch
    have HO := hid hok
    clear hch hok
    have hfin : evenChainB s.data.toList = !oddAny [cn s.data.toList 0, cn s.data.toList 1, cn s.data.toList 2, cn s.data.toList 3] := by
      rw [Bool.eq_iff_iff]; simp [evenChainB, HC.out, evenB, oddAny]; omega
    have HF := hid hfin
    clear hfin
    go_enter Tryz.func38, Tryz.ntmps38
    go_wp2_with (go_at_call 66; refine (isChain_any s _ hs).mono ?_; rintro e w1 ⟨rfl, hb⟩; rw [HC.out])
    refine (of_any s w1 hs HO.out).mono ?_
    rintro e w2 ⟨rfl, hb2⟩
    go_wp2_with fail
    refine (each_any _ _ _ _ w2).mono ?_
    rintro e w3 ⟨rfl, hw3⟩
    have hB3 : Blk w3 w2.heap.size (arr4 fun j => cn s.data.toList j) 82 := by rw [← hw3]; exact Blk.new _ _ _
    have hb3 : Below w2.heap.size w2 w3 := by rw [← hw3]; exact (Below.refl _ _).alloc (Nat.le_refl _) _
    clear hw3
    have HB3 := hid hB3
    clear hB3
    go_wp2_with fail
    refine (collect_any _ _ w3 HB3.out).mono ?_
    rintro e w4 ⟨a4, c4, rfl, hr4, hb4⟩
    have HR4 := hid hr4
    clear hr4
    go_wp2_with fail
    refine (containsInt_any a4 c4 [cn s.data.toList 0, cn s.data.toList 1, cn s.data.toList 2, cn s.data.toList 3] w4 (by simp) HR4.out).mono ?_
    rintro e w5 ⟨rfl, rfl⟩
    go_wp2
    go_ret
    exact ⟨ret_bool HF.out.symm, hb.trans ((hb2.mono hb.size).trans ((hb3.mono (Nat.le_trans hb.size hb2.size)).trans (hb4.mono (Nat.le_trans hb.size (Nat.le_trans hb2.size hb3.size)))))⟩

attribute [local go_sem] Oper.semAt_some

def mins : List Int → Int
  | [] => 0
  | x :: r => min x 1 + mins r
theorem mins_append (a b : List Int) : mins (a ++ b) = mins a + mins b := by
  induction a with
  | nil => simp [mins]
  | cons x r ih => simp [mins, ih]; omega
theorem mins_bd (l : List Int) (h : ∀ x ∈ l, 0 ≤ x) : 0 ≤ mins l ∧ mins l ≤ l.length := by
  induction l with
  | nil => simp [mins]
  | cons x r ih =>
    have := ih (fun y hy => h y (List.mem_cons_of_mem _ hy))
    have := h x (by simp)
    simp [mins]; omega

/-- What kinds holds between two rounds. -/
def KindI (w : World) (s : List Int) (C : Nat → Prop) (W : World) : Prop :=
  Blk W (w.heap.size + 1) #[.int .i64 (mins s)] 3 ∧ C (w.heap.size + 1) ∧ Below w.heap.size w W

theorem KindI_firm (l : Nat) (w : World) (hl : w.heap.size + 1 < l) : FirmX l (KindI w) :=
  (FirmX.blk _ (by omega)).and ((FirmX.pure fun _ C => C (w.heap.size + 1)).and (FirmX.below (Nat.le_refl _) (by omega)))

set_option maxHeartbeats 400000 in
theorem kinds_any (f : Nat → Int) (hf : ∀ j, 0 ≤ f j) (w : World) :
    Calls Tryz.prog 45 #[.agg #[.int .i64 (f 0), .int .i64 (f 1), .int .i64 (f 2), .int .i64 (f 3)]] w fun e w' => e = .returned (.int .i64 (mins (four f))) ∧ Below w.heap.size w w' := by
  have HF := hid hf
  clear hf
  refine (callsIn_wide (n := 0)).1 (callsIn_of_wp_marks Tryz.func45 rfl trivial ?_ rfl)
  simp only [Tryz.ntmps45, List.size_toArray, List.length_cons, List.length_nil, Nat.reduceAdd, Nat.reduceSub, Array.replicate_succ, Array.replicate_zero, List.push_toArray, List.append_toArray, List.nil_append, List.cons_append]
  gi_wp2_with fail
  refine ⟨trivial, rfl, ?_⟩
  refine (callsIn_wide.2 (each_any _ _ _ _ _)).mono ?_
  rintro e w2 ⟨rfl, hw2⟩
  have hB2 : Blk w2 (w.heap.size + 1 + 1) (arr4 f) 82 := by rw [← hw2]; exact Blk.mk' (by simp) rfl
  have hB1 : Blk w2 (w.heap.size + 1) #[.int .i64 0] 3 := by rw [← hw2]; exact (Blk.mk' (by simp) rfl : Blk (_) _ _ _).alloc _
  have hsz : w2.heap.size = w.heap.size + 3 := by rw [← hw2]; simp
  have hb : Below w.heap.size w w2 := by rw [← hw2]; exact (((Below.refl _ w).alloc (Nat.le_refl _) _).alloc (by simp) _).alloc (by simp; omega) _
  clear hw2
  have HB2 := hid hB2
  have HB1 := hid hB1
  have HSZ := hid hsz
  clear hB1 hB2 hsz
  gi_wp2
  refine wp_range (gf := 104) (lb := #[.pointer (some ⟨w.heap.size + 1 + 1, 0, none⟩)]) rfl Tryz.call104 (fun x v _ => v = Value.int .i64 x) (four f) (fun k => k = w.heap.size + 1) ?_ (fun x v A l r o h _ => h) ?_
    (KindI w) (fun _ _ _ _ => False) ?_ (fun _ => FirmX.false) ?_
    (fun v => { tmps := #[.agg #[.int .i64 (f 0), .int .i64 (f 1), .int .i64 (f 2), .int .i64 (f 3)], .pointer (some ⟨w.heap.size, 0, none⟩), .int .i64 0, .pointer (some ⟨w.heap.size + 1, 0, none⟩), v, .agg #[.int .i64 (f 0), .int .i64 (f 1), .int .i64 (f 2), .int .i64 (f 3)], .func (.func 104) #[] #[.pointer (some ⟨w.heap.size + 1 + 1, 0, none⟩)], v, undef, undef, undef, undef, undef], defers := [] }) ?_ ?_ ?_ ?_
  · rintro k rfl; rw [HSZ.out]; omega
  · intro W hW hb'
    exact each_iter f _ _ W (HB2.out.below hb' (by rw [HSZ.out]; omega))
  · rw [HSZ.out]; exact KindI_firm _ _ (by omega)
  · intro W hb'
    rw [HSZ.out] at hb'
    exact ⟨HB1.out.below hb' (by omega), rfl, hb.trans (hb'.mono (by omega))⟩
  · intro v W K hK
    gi_wp2
    exact hK
  · rintro pre x post v C W hx ⟨h1, h2, h3⟩ rfl hsz hC -
    have hall : ∀ y ∈ four f, 0 ≤ y := by
      intro y hy; simp [four] at hy; rcases hy with rfl | rfl | rfl | rfl <;> exact HF.out _
    have hx0 : 0 ≤ x := hall x (by rw [hx]; simp)
    have hm := mins_bd pre (fun y hy => hall y (by rw [hx]; simp [hy]))
    have hlen : pre.length ≤ 4 := by
      have := congrArg List.length hx
      simp [four] at this; omega
    have hc := h1.cell 0
    have hf := h1.free 0
    simp only [List.getElem?_toArray, List.getElem?_cons_zero] at hc
    have hm2 : mins (pre ++ [x]) = mins pre + min x 1 := by rw [mins_append]; simp [mins]
    have H1 := hid h1
    have HX := hid hx
    have HC := hid hC
    have HM := hid hm2
    have H4 : Hid (∀ v, Grew C C W (W.setCell ⟨w.heap.size + 1, 0, none⟩ v)) := fun v => Grew.refl (KeepsX.setCell _ h2) (fun k hk => (HC.out k hk).1)
    clear h1 hx hC hall hm2
    gi_wp2
    all_goals refine ⟨C, H4.out _, ?_, h2, h3.setCell (Nat.le_succ _) _⟩
    all_goals
      have := H1.out.set 0 (.int .i64 (mins (pre ++ [x])))
      rw [HM.out] at this ⊢
    · rw [show min x 1 = 1 by omega] at this ⊢; exact this
    · rw [show min x 1 = x by omega] at this ⊢; exact this
  · rintro C W hsz ⟨h1, h2, h3⟩ hD
    have hc := h1.cell 0
    simp only [List.getElem?_toArray, List.getElem?_cons_zero] at hc
    have HD := hid hD
    have hds := HSZ.out
    clear h1 hD
    gi_wp2
    refine leaves_marks (B := w2.heap.size) _ W ((MarksOk.nil _ _).cons (Nat.le_refl _) HD.out (by simp)) (by omega) (fun W' _ => results_tmp (fn := Tryz.f45) (t := 2) rfl _ _ _) ?_
    intro W' hb'
    exact ⟨rfl, h3.trans (hb'.below.mono (by omega))⟩
  · rintro c pre x post C W _ _ h _
    exact h.elim
end Go.Proofs.YtkmpdcckgibkhaaGreat
/-
  Walks: shares, fair cuts.
-/
namespace Go.Proofs.YtkmpdcckgibkhaaGreat
open Go.RowKit

/-- What a call returns: a slice of its own that reads as 'l'. -/
def RetOwn (l : List Int) (w : World) (e : Ending) (w' : World) : Prop := ∃ a c, e = .returned (.slice a l.length c) ∧ w'.ownsRow w.heap.size 3 1 (.slice a l.length c) l.length (l.map (Value.int .i64)) ∧ Below w.heap.size w w'

set_option maxHeartbeats 400000 in
theorem clone_any (a : Option Addr) (c : Nat) (l : List Int) (w : World) (ha : Ints w a l) (hn : a = none → l = [] ∧ c = 0) (hl : l.length ≤ 1000) :
    Calls Tryz.prog 84 #[.slice a l.length c] w (RetOwn l w) := by
  have he := fun (w : World) (a : Option Addr) (n c : Nat) => Lib.run_eql_slice_nil (P := Tryz.prog) w 24 3 a n c 0 0 Tryz.underlying24
  cases a with
  | none =>
    obtain ⟨rfl, rfl⟩ := hn rfl
    go_enter Tryz.func84, Tryz.ntmps84
    go_wp2
    go_ret
    exact ⟨none, 0, rfl, World.ownsRow_nil _ _ _ _, Below.refl _ _⟩
  | some ad =>
    have HA := hid ha
    clear ha hn
    go_enter Tryz.func84, Tryz.ntmps84
    go_wp2_with (at_builtin; go_must (refine wpList_app (w.alloc (.cells #[] 3)) rfl (.tmp 5) (.tmp 6) 24 rfl w.heap.size 3 (.int .i64 0) 8 Tryz.underlying24 infoS3 rfl (.slice (some ⟨w.heap.size, 0, none⟩) 0 0) 0 [] rfl ⟨by simp, .inr ⟨w.heap.size, 0, #[], rfl, Nat.le_refl _, Blk.new w _ _, by omega, by simp [maxLen], by simp, by simp⟩⟩ (some ad) l.length c _ rfl (by rw [List.length_map]) (Ints.below HA.out ((Below.refl _ w).alloc (Nat.le_refl _) _) (Nat.le_refl _)) (fun h => by cases h) (ints_one _) (by omega) (by omega) (by simp) ?_))
    intro v' w1 hown hgrow _
    obtain ⟨a', c', rfl, -⟩ := ownsRow_ints (l := l) hown
    have HO := hid hown
    have HG := hid hgrow
    clear hown hgrow
    go_wp2
    go_ret
    refine ⟨a', c', rfl, HO.out, ((Below.refl _ w).alloc (Nat.le_refl _) _).grown HG.out (by simp) ?_⟩
    intro k hk
    simp [Value.ownBlock] at hk; omega

theorem eq4c (a0 a1 a2 a3 b0 b1 b2 b3 : Int) (w : World) : (Op.equalIn 10000 82 (.agg #[.int .i64 a0, .int .i64 a1, .int .i64 a2, .int .i64 a3]) (.agg #[.int .i64 b0, .int .i64 b1, .int .i64 b2, .int .i64 b3])).run Tryz.prog w = .ok (a0 == b0 && a1 == b1 && a2 == b2 && a3 == b3) w := by
  have hu : ∀ w, (underlying 82).run Tryz.prog w = .ok (.array 4 3) w := fun w => Tryz.runUnderlying82 w
  have hs : ∀ w, (sizeOf 3).run Tryz.prog w = .ok 1 w := fun w => Tryz.sizeOf3 w
  have hg : ∀ w, (isAgg 3).run Tryz.prog w = .ok false w := fun w => Tryz.isAgg3 w
  rw [show (10000 : Nat) = 9999 + 1 from rfl, Op.equalIn]
  simp [hu, Sem.run_bind, go_sem, hs, List.range'_succ, hg, eqi]
  by_cases h0 : a0 = b0 <;> by_cases h1 : a1 = b1 <;> by_cases h2 : a2 = b2 <;> by_cases h3 : a3 = b3 <;> simp [h0, h1, h2, h3, go_sem]

/-- The loop of the program's shares, over the cuts and the length. -/
def shL2 (l : List UInt8) : Nat → Nat → List Int → List UInt8 → List UInt8 → List UInt8 × List UInt8
  | _, _, [], a, b => (a, b)
  | 0, fr, c :: r, a, b => shL2 l 1 c.toNat r (a ++ (l.drop fr).take (c.toNat - fr)) b
  | _ + 1, fr, c :: r, a, b => shL2 l 0 c.toNat r a (b ++ (l.drop fr).take (c.toNat - fr))

theorem shL2_eq (l : List UInt8) : ∀ (cuts : List Int) (car fr : Nat) (a b : List UInt8), shL2 l car fr (cuts ++ [(l.length : Int)]) a b = shLoop l car fr cuts a b := by
  intro cuts
  induction cuts with
  | nil => intro car fr a b; cases car <;> simp [shL2, shLoop, List.take_of_length_le]
  | cons c r ih => intro car fr a b; cases car <;> simp [shL2, shLoop, ih]

def ShRel2 (l : List UInt8) (n : Nat) (cuts : List Int) (tgt : List UInt8 × List UInt8) (k car fr : Nat) (x y : ByteArray) : Prop :=
  shL2 l car fr (cuts.drop k) x.data.toList y.data.toList = tgt ∧ (∃ p : Int, (fr : Int) ≤ p ∧ cutsB (n + 1) p (cuts.drop k) = true) ∧ x.size + y.size ≤ fr ∧ car = k % 2

theorem vals_setCell {w : World} {a : Option Addr} {l : List Value} (h : Vals w a l) (p : Addr) (v : Value) (hp : ∀ g o, a = some ⟨g, o, none⟩ → g ≠ p.block) : Vals (w.setCell p v) a l := by
  rcases h with h | ⟨g, o, ha, hg, hc⟩
  · exact .inl h
  · exact .inr ⟨g, o, ha, by simpa [World.setCell] using hg, fun i u hu => (World.cell?_of_block (Below.heap_setCell w p v g (hp g o ha))).trans (hc i u hu)⟩

theorem cutsB_wide (n m : Int) : ∀ (l : List Int) {f : Int}, cutsB n f l = true → n ≤ m → cutsB m f l = true := by
  intro l
  induction l with
  | nil => intro f _ _; rfl
  | cons c r ih =>
    intro f h hm
    simp only [cutsB, Bool.and_eq_true, decide_eq_true_eq] at h ⊢
    exact ⟨⟨h.1.1, by omega⟩, ih h.2 hm⟩

set_option maxHeartbeats 400000 in
theorem shares_any (s : ByteArray) (a : Option Addr) (c : Nat) (l : List Int) (w : World) (hs : s.size ≤ 1000) (ha : Ints w a l) (hn : a = none → c = 0) (hlc : l.length ≤ c) (hl : l.length ≤ 900) (hc : cutsB s.size 0 l = true) :
    Calls Tryz.prog 71 #[.string s, .slice a l.length c] w fun e w' => e = .returned (.tuple #[.string (mkS (shLoop s.data.toList 0 0 l [] []).1), .string (mkS (shLoop s.data.toList 0 0 l [] []).2)]) ∧ Below w.heap.size w w' := by
  have CL := hid (clone_any a c l (w.alloc (.cells #[.string ⟨#[]⟩, .string ⟨#[]⟩] 162)) (ha.below ((Below.refl _ w).alloc (Nat.le_refl _) _) (Nat.le_refl _)) (fun h => by have := hn h; exact ⟨List.eq_nil_of_length_eq_zero (by omega), this⟩) (by omega))
  have HCU := hid hc
  clear ha hn hc
  go_enter Tryz.func71, Tryz.ntmps71
  go_wp2_with fail
  refine CL.out.mono ?_
  rintro e w1 ⟨a1, c1, rfl, hown, hb1⟩
  have HB1 : Blk w1 w.heap.size #[.string ⟨#[]⟩, .string ⟨#[]⟩] 162 := (Blk.new w _ _).below hb1 (by simp)
  have HO1 := hid (show w1.ownsRow (w.heap.size + 1) 3 1 (.slice a1 l.length c1) l.length (l.map (Value.int .i64)) from by simpa using hown)
  have hw1 : w.heap.size + 1 ≤ w1.heap.size := by have := hb1.size; simpa using this
  have hbw : Below w.heap.size w w1 := ((Below.refl _ w).alloc (Nat.le_refl _) _).trans (hb1.mono (by simp))
  have HBX := hid HB1
  clear hown hb1 HB1
  go_wp2_with (at_builtin; go_must (refine wpList_app (w1.alloc (.cells #[.int .i64 s.size] 3)) rfl (.tmp 11) (.tmp 14) 24 rfl (w.heap.size + 1) 3 (.int .i64 0) 8 Tryz.underlying24 infoS3 rfl (.slice a1 l.length c1) l.length _ rfl (HO1.out.alloc _) (some ⟨w1.heap.size, 0, none⟩) 1 1 [.int .i64 s.size] rfl rfl (vals_new _ _ _ _ rfl) (fun h => by cases h) (by simp [Value.oneCell']) (by omega) (by omega) (by simp; omega) ?_))
  intro v2 w2 hown2 hg2 _
  obtain ⟨L, hL⟩ : ∃ L, L = l ++ [(s.size : Int)] := ⟨_, rfl⟩
  have hown2' : w2.ownsRow (w.heap.size + 1) 3 1 v2 L.length (L.map (Value.int .i64)) := by rw [hL]; simpa using hown2
  obtain ⟨a2, c2, rfl, hr2⟩ := ownsRow_ints (l := L) hown2'
  have hb2 : Below w.heap.size w w2 := below_app (hbw.alloc (by omega) _) hg2 (HO1.out.alloc _) (by simp; omega) (by omega)
  have hB2 : Blk w2 w.heap.size #[.string ⟨#[]⟩, .string ⟨#[]⟩] 162 := by
    refine (hg2.block w.heap.size (by simp; omega) (fun e => ?_)).trans (HBX.out.alloc _)
    have := (HO1.out.lt _ e.symm).1
    omega
  have HB2 := hid hB2
  have HL := hid hL
  have hLl : L.length ≤ 1000 := by rw [hL]; simp; omega
  have HR2 := hid hr2
  have hOL := hown2'
  clear hown2 hown2' hg2 hB2 hL hr2
  have hA2 : ∀ g o, a2 = some ⟨g, o, none⟩ → g ≠ w.heap.size := fun g o e => by have := (hOL.lt g (by rw [e]; rfl)).1; omega
  have HA2 := hid hA2
  clear hA2 hOL
  go_wp2
  go_loopw [7, 17] (fun fr i wr => ∃ (k f : Nat) (x y : ByteArray), i = .int .i64 k ∧ fr = .int .i64 f ∧ k ≤ L.length ∧ Below w.heap.size w wr ∧ Blk wr w.heap.size #[.string x, .string y] 162 ∧ Hid (Ints wr a2 L ∧ ShRel2 s.data.toList s.size L (shL2 s.data.toList 0 0 L [] []) k (k % 2) f x y)) (fun _ i _ => L.length - (intOf i).toNat)
  case atStart =>
    refine ⟨0, 0, _, _, rfl, rfl, by omega, hb2, HB2.out, HR2.out, rfl, ⟨0, by omega, ?_⟩, Nat.le_refl 0, rfl⟩
    rw [HL.out]
    exact cutsB_snoc _ _ _ _ (cutsB_wide _ _ _ HCU.out (by omega)) (fun x hx => (cutsB_ge _ _ _ HCU.out x hx).2) (by omega) (by omega)
  case round =>
    obtain ⟨k, f, x, y, rfl, rfl, hk, hB, HB, HR⟩ := hrel
    have c0 := HB.cell 0
    have c1' := HB.cell 1
    have f0 := HB.free 0
    have f1 := HB.free 1
    simp only [List.getElem?_toArray, List.getElem?_cons_zero, List.getElem?_cons_succ] at c0 c1'
    have HBB := hid HB
    clear HB
    by_cases hlt : k < L.length
    · obtain ⟨z, hz, hz2⟩ := list_drop_cons L k hlt
      obtain ⟨hri, hsh, ⟨p, hp, hcb⟩, hxy, _⟩ := HR.out
      obtain ⟨g, o, rfl, hg, hcell⟩ := hri.at (by omega)
      have q1 := hcell k z hz
      rw [hz2] at hcb hsh
      simp only [cutsB, Bool.and_eq_true, decide_eq_true_eq] at hcb
      obtain ⟨zn, rfl⟩ := Int.eq_ofNat_of_zero_le (show 0 ≤ z by omega)
      have b1 : f ≤ zn := by omega
      have b3 : zn ≤ s.size := by omega
      have bx : x.size ≤ 1000 := by omega
      have by_ : y.size ≤ 1000 := by omega
      have b4 : x.size + (s.extract f zn).size ≤ 9223372036854775807 := by simp; omega
      have b5 : y.size + (s.extract f zn).size ≤ 9223372036854775807 := by simp; omega
      have HS := hid hsh
      have HC := hid hcb
      have HXY := hid hxy
      have zt : ((zn : Int)).toNat = zn := rfl
      have ZT := hid zt
      clear hsh hcb hcell hz hz2 hri hxy zt
      rcases (show k % 2 = 0 ∨ k % 2 = 1 by omega) with hk2 | hk2
      · have hk3 : (k : Int) % 2 = 0 := by omega
        have hk4 : (k + 1) % 2 = 1 := by omega
        have HK2 := hid hk2
        have HK4 := hid hk4
        clear hk2 hk4
        go_wp2
        go_region
        go_wp2
        refine ⟨⟨k + 1, zn, x ++ s.extract f zn, y, by go_num, rfl, by omega, (hB.setCell (Nat.le_refl _) _).drew, HBB.out.set 0 _, vals_setCell HR.out.1 _ _ HA2.out, ?_, ⟨_, by omega, HC.out.2⟩, ?_, rfl⟩, by simp [intOf]; omega⟩
        · have := HS.out
          rw [HK2.out] at this
          rw [← this, HK4.out, shL2, ZT.out, data_append, data_extract]
        · have := HXY.out; simp; omega
      · have hk3 : (k : Int) % 2 = 1 := by omega
        have hk4 : (k + 1) % 2 = 0 := by omega
        have HK2 := hid hk2
        have HK4 := hid hk4
        clear hk2 hk4
        go_wp2
        go_region
        go_wp2
        refine ⟨⟨k + 1, zn, x, y ++ s.extract f zn, by go_num, rfl, by omega, (hB.setCell (Nat.le_refl _) _).drew, HBB.out.set 1 _, vals_setCell HR.out.1 _ _ HA2.out, ?_, ⟨_, by omega, HC.out.2⟩, ?_, rfl⟩, by simp [intOf]; omega⟩
        · have := HS.out
          rw [HK2.out] at this
          rw [← this, HK4.out, shL2, ZT.out, data_append, data_extract]
        · have := HXY.out; simp; omega
    · obtain ⟨_, hsh, _⟩ := HR.out
      rw [List.drop_eq_nil_of_le (by omega)] at hsh
      have hsh2 : (x.data.toList, y.data.toList) = shLoop s.data.toList 0 0 l [] [] := by
        rw [← shL2_eq, bytes_len, ← HL.out, ← hsh]
        rcases (show k % 2 = 0 ∨ k % 2 = 1 by omega) with h | h <;> rw [h] <;> rfl
      have e1 : x = mkS (shLoop s.data.toList 0 0 l [] []).1 := mkS_eq _ _ (by rw [← hsh2])
      have e2 : y = mkS (shLoop s.data.toList 0 0 l [] []).2 := mkS_eq _ _ (by rw [← hsh2])
      have HE := hid (And.intro e1 e2)
      clear e1 e2 hsh hsh2 HR
      go_wp2
      go_quiet (fail)
      go_wp2
      go_ret2
      exact ⟨by rw [← HE.out.1, ← HE.out.2]; rfl, below_drewN hB _⟩

set_option maxHeartbeats 400000 in
theorem isFair_any (s : ByteArray) (a : Option Addr) (c : Nat) (l : List Int) (w : World) (hs : s.size ≤ 1000) (ha : Ints w a l) (hn : a = none → c = 0) (hlc : l.length ≤ c) (hl : l.length ≤ 900) (hc : cutsB s.size 0 l = true) (hok : s.data.toList.all okb = true) :
    Calls Tryz.prog 40 #[.string s, .slice a l.length c] w fun e w' => e = .returned (.bool (fairB s.data.toList l)) ∧ Below w.heap.size w w' := by
  obtain ⟨h1, h2⟩ := shLoop_all s.data.toList hok l 0 0 [] [] rfl rfl
  obtain ⟨l1, l2⟩ := shLoop_len s.data.toList l 0 0 [] []
  have l3 : (l.length + 1) * s.data.toList.length ≤ 901 * 1000 := Nat.mul_le_mul (by omega) (by rw [bytes_len]; exact hs)
  have hA : (mkS (shLoop s.data.toList 0 0 l [] []).1).size ≤ 1000000 := by rw [mkS_size]; simp only [List.length_nil] at l1; omega
  have hB : (mkS (shLoop s.data.toList 0 0 l [] []).2).size ≤ 1000000 := by rw [mkS_size]; simp only [List.length_nil] at l2; omega
  have LA := fun W => hid (of_any (mkS (shLoop s.data.toList 0 0 l [] []).1) W hA h1)
  have LB := fun W => hid (of_any (mkS (shLoop s.data.toList 0 0 l [] []).2) W hB h2)
  have hf : fairB s.data.toList l = sameB (shLoop s.data.toList 0 0 l [] []).1 (shLoop s.data.toList 0 0 l [] []).2 := by
    rw [(shLoop_share _ _ _ _ _).1]; rfl
  have HF := hid hf
  have SH := hid (shares_any s a c l w hs ha hn hlc hl hc)
  clear hA hB h1 h2 l1 l2 l3 hf
  have hE := @eq4c
  go_enter Tryz.func40, Tryz.ntmps40
  go_wp2_with fail
  refine SH.out.mono ?_
  rintro e w1 ⟨rfl, hb⟩
  go_wp2_with fail
  refine ((LA w1).out).mono ?_
  rintro e w2 ⟨rfl, hb2⟩
  go_wp2_with fail
  refine ((LB w2).out).mono ?_
  rintro e w3 ⟨rfl, hb3⟩
  go_wp2_with fail
  go_ret
  exact ⟨ret_bool (by rw [HF.out, mkS_data, mkS_data, Bool.eq_iff_iff]; simp [sameB]; omega), hb.trans ((hb2.mono hb.size).trans (hb3.mono (Nat.le_trans hb.size hb2.size)))⟩
end Go.Proofs.YtkmpdcckgibkhaaGreat
/-
  Walks: are these cuts.
-/
namespace Go.Proofs.YtkmpdcckgibkhaaGreat
open Go.RowKit

set_option maxHeartbeats 1000000 in
theorem areCuts_any (s : ByteArray) (a : Option Addr) (c : Nat) (l : List Int) (f : Int) (w : World) (hs : s.size ≤ 1000000) (ha : Ints w a l) (hl : l.length ≤ 9223372036854775807) :
    Calls Tryz.prog 39 #[.string s, .slice a l.length c, .int .i64 f] w fun e w' => e = .returned (.bool (cutsLoop s.size f none l)) ∧ w = w' := by
  have HA := hid ha
  clear ha
  go_enter Tryz.func39, Tryz.ntmps39
  go_wp2_with fail
  go_loop [11] (fun i => ∃ k : Nat, k ≤ l.length ∧ i = .int .i64 k ∧ Hid (cutsLoop s.size f none l = cutsLoop s.size f (pv l k) (l.drop k))) (fun i => l.length - (intOf i).toNat)
  case atStart => exact ⟨0, Nat.zero_le _, rfl, rfl⟩
  case round =>
    obtain ⟨k, hk, rfl, H⟩ := hrel
    by_cases hlt : k < l.length
    · obtain ⟨x, hx, hx2⟩ := list_drop_cons l k hlt
      obtain ⟨g, o, rfl, hg, hc⟩ := HA.out.at (by omega)
      have q1 := hc k x hx
      have X1 := hid hx
      have X2 := hid hx2
      clear hx hx2
      by_cases h1 : f ≤ x ∧ x ≤ (s.size : Int) - 1
      · have W1 : Hid ((decide (f ≤ x) && decide (x ≤ (s.size : Int) - 1)) = true) := by simp [Hid]; omega
        by_cases h3 : k = 0
        · have hfin : cutsLoop s.size f none l = cutsLoop s.size f (pv l (k+1)) (l.drop (k + 1)) := by
            rw [H.out, X2.out, pv_succ l k x X1.out, h3]; simp [cutsLoop, pv]; omega
          have HF := hid hfin
          have d3 : decide (0 < (k : Int)) = false := by simp [h3]
          have d3' : decide (0 < k) = false := by simp [h3]
          have H3 := hid h3
          clear hc h1 hfin h3
          go_wp2_with (go_at_call 70; refine (within70 x f _ _).mono ?_; rintro e w1 ⟨rfl, rfl⟩; rw [W1.out])
          go_round
          case rel => exact ⟨k + 1, by omega, by go_num, HF⟩
          case measure => simp [intOf]; omega
        · have d3 : decide (0 < (k : Int)) = true := by simp; omega
          have d3' : decide (0 < k) = true := by simp; omega
          obtain ⟨p, hp⟩ : ∃ p, l[k - 1]? = some p := ⟨_, List.getElem?_eq_getElem (by omega)⟩
          have q2 := hc (k - 1) p hp
          have hpv : pv l k = some p := by simp [pv, h3, hp]
          by_cases h4 : x ≤ p
          · have d4 : decide (x ≤ p) = true := by simpa using h4
            have hfin : cutsLoop s.size f none l = false := by rw [H.out, X2.out, hpv]; simp [cutsLoop]; omega
            have HF := hid hfin
            have k0 : 1 ≤ k := by omega
            clear hc h1 h3 h4 hfin hpv hp
            go_wp2_with (go_at_call 70; refine (within70 x f _ _).mono ?_; rintro e w1 ⟨rfl, rfl⟩; rw [W1.out])
            go_ret
            exact ⟨ret_bool HF.out.symm, rfl⟩
          · have d4 : decide (x ≤ p) = false := by simpa using h4
            have hfin : cutsLoop s.size f none l = cutsLoop s.size f (pv l (k+1)) (l.drop (k + 1)) := by
              rw [H.out, X2.out, pv_succ l k x X1.out, hpv]; simp [cutsLoop]; omega
            have HF := hid hfin
            have k0 : 1 ≤ k := by omega
            clear hc h1 h3 h4 hfin hpv hp
            go_wp2_with (go_at_call 70; refine (within70 x f _ _).mono ?_; rintro e w1 ⟨rfl, rfl⟩; rw [W1.out])
            go_round
            case rel => exact ⟨k + 1, by omega, by go_num, HF⟩
            case measure => simp [intOf]; omega
      · have W1 : Hid ((decide (f ≤ x) && decide (x ≤ (s.size : Int) - 1)) = false) := by simp [Hid]; omega
        have hfin : cutsLoop s.size f none l = false := by rw [H.out, X2.out]; unfold cutsLoop; cases pv l k <;> simp <;> omega
        have HF := hid hfin
        clear hc h1 hfin
        go_wp2_with (go_at_call 70; refine (within70 x f _ _).mono ?_; rintro e w1 ⟨rfl, rfl⟩; rw [W1.out])
        go_ret
        exact ⟨ret_bool HF.out.symm, rfl⟩
    · have hfin : cutsLoop s.size f none l = true := by rw [H.out, List.drop_eq_nil_of_le (by omega)]; unfold cutsLoop; cases pv l k <;> rfl
      have HF := hid hfin
      clear hfin
      go_wp2
      go_ret
      exact ⟨ret_bool HF.out.symm, rfl⟩

end Go.Proofs.YtkmpdcckgibkhaaGreat
/-
  Walks: the function that extends a list of cuts.
-/
namespace Go.Proofs.YtkmpdcckgibkhaaGreat
open Go.RowKit
attribute [local go_sem] Oper.semAt_some

/-- A call, as one step of a region that draws. -/
theorem step_call {P : Program} {ops : Array Oper} {o : Oper} {a : Act} {w : World} {K : Act → World → Prop} {Q : Exit → Act → World → Prop} {E : Prop}
    (hg : o.guard = none) (x : Operand) (xs : List Operand) (ts : Array TypeId) (hop : o.op = Op.call { callee := .value x, args := xs.toArray, argTypes := ts }) (f : FuncId) (cap : List Value) (hx : a.eval x = .func (.func f) #[] cap.toArray)
    (hcall : ∀ args w, (callFunc f args).run P w = .ok (.enter f args) w) (args : List Value) (hargs : xs.map a.eval ++ cap = args) {R : Ending → World → Prop} (hc : Calls P f args.toArray w R)
    (hK : ∀ e w', R e w' → ∃ v, e = .returned v ∧ K (a.put o.dst v) w') : if Region.wanted o (yielded ops a.tmps) = true then Oper.wp P o a w K Q else E := by
  have hw : Region.wanted o (yielded ops a.tmps) = true := by simp [Region.wanted, hg]
  rw [if_pos hw]
  unfold Oper.wp
  have hrun : (execOp a.eval o).run P w = .ok (.enter f args.toArray) w := by
    simp [execOp, hop, resolve, hx, Deferred.ofValue, invoke, hcall, ← hargs]
  rw [hrun]
  show Calls P f args.toArray w _
  refine hc.mono fun e w' hR => ?_
  obtain ⟨v, rfl, hk⟩ := hK e w' hR
  exact hk

/-- An append, as one step of a region that draws. -/
theorem step_app {P : Program} {ops : Array Oper} {o : Oper} {a : Act} {w : World} {K : Act → World → Prop} {Q : Exit → Act → World → Prop} {E : Prop}
    (hg : o.guard = none) (s x : Operand) (t : TypeId) (hop : o.op = Op.call { callee := Callee.builtin Builtin.append, args := #[s, x], argTypes := #[t, t] })
    (base : Nat) (e : TypeId) (z : Value) (bytes : Nat) (ht : P.underlying t = some (.slice e)) (hi : (P.info? e).map (fun i => (i.zero, i.size, i.bytes)) = some (some z, 1, bytes))
    (hz : z.cells.size = 1) (v : Value) (n : Nat) (xs : List Value) (hs : a.eval s = v) (hown : w.ownsRow base e 1 v n xs) (ad : Option Addr) (m c : Nat) (news : List Value) (hx : a.eval x = .slice ad m c) (hm : m = news.length) (hr : Vals w ad news) (hnil : ad = none → m = 0 ∧ c = 0) (h1 : ∀ u ∈ news, u.oneCell' = true)
    (h63 : n + m ≤ 17592186044416) (hb8 : bytes ≤ 8) (hbase : base ≤ w.heap.size)
    (hK : ∀ v' w', w'.ownsRow base e 1 v' (n + m) (xs ++ news) → w.grownBy w' v.ownBlock → K (a.put o.dst v') w') :
    if Region.wanted o (yielded ops a.tmps) = true then Oper.wp P o a w K Q else E := by
  have hw : Region.wanted o (yielded ops a.tmps) = true := by simp [Region.wanted, hg]
  rw [if_pos hw]
  obtain ⟨v', w', hrun, r1, r2, -⟩ := run_app (P := P) w base t o.type e z bytes ht hi hz v n xs hown ad m c news hm hr hnil h1 h63 hb8 hbase
  unfold Oper.wp
  simp [execOp, hop, resolve, invoke, builtin, hs, hx, hrun, Result.andThen]
  exact hK v' w' r1 r2

/-- From one moment to a later one: what was not the caller's is not now, and lies as it lay. -/
structure Step (C : Nat → Prop) (W : World) (C' : Nat → Prop) (W' : World) : Prop where
  size : W.heap.size ≤ W'.heap.size
  old : ∀ k, k < W.heap.size → ¬ C k → ¬ C' k ∧ W'.heap[k]? = W.heap[k]?
  lt : ∀ k, C' k → k < W'.heap.size
theorem Step.trans {C C' C'' : Nat → Prop} {A B D : World} (h : Step C A C' B) (k : Step C' B C'' D) : Step C A C'' D :=
  ⟨Nat.le_trans h.size k.size, fun i hi hc => by
    have h1 := h.old i hi hc
    have h2 := k.old i (Nat.lt_of_lt_of_le hi h.size) h1.1
    exact ⟨h2.1, h2.2.trans h1.2⟩, k.lt⟩
theorem Step.refl {C : Nat → Prop} {A : World} (h : ∀ k, C k → k < A.heap.size) : Step C A C A := ⟨Nat.le_refl _, fun _ _ hc => ⟨hc, rfl⟩, h⟩
theorem Step.below {C : Nat → Prop} {A B : World} (hb : Below A.heap.size A B) (h : ∀ k, C k → k < A.heap.size) : Step C A C B :=
  ⟨hb.size, fun k hk hc => ⟨hc, hb.block k hk⟩, fun k hk => Nat.lt_of_lt_of_le (h k hk) hb.size⟩
theorem Step.grew {C C' : Nat → Prop} {A B : World} (h : Grew C C' A B) : Step C A C' B :=
  ⟨h.keep.size, fun k hk hc => ⟨fun h' => (h.old k h').elim hc (fun h'' => by omega), h.keep.same k hk hc⟩, h.lt⟩
theorem Blk.step {C C' : Nat → Prop} {A B : World} {b : Nat} {cs : Array Value} {t : TypeId} (h : Blk A b cs t) (hs : Step C A C' B) (hc : ¬ C b) : Blk B b cs t ∧ ¬ C' b :=
  ⟨((hs.old b h.lt hc).2).trans h, (hs.old b h.lt hc).1⟩

/-- The boxes that the iterator's functions have captured. -/
structure Env (lp many to bm bY bt be : Nat) (C : Nat → Prop) (W : World) : Prop where
  m : Blk W bm #[.int .i64 many] 3 ∧ ¬ C bm
  y : Blk W bY #[.func (.yield lp) #[] #[]] 100 ∧ ¬ C bY
  t : Blk W bt #[.int .i64 to] 3 ∧ ¬ C bt
  e : Blk W be #[.func (.func 83) #[] #[.pointer (some ⟨bm, 0, none⟩), .pointer (some ⟨bY, 0, none⟩), .pointer (some ⟨bt, 0, none⟩), .pointer (some ⟨be, 0, none⟩)]] 136 ∧ ¬ C be
theorem Env.step {lp many to bm bY bt be : Nat} {C C' : Nat → Prop} {W W' : World} (h : Env lp many to bm bY bt be C W) (hs : Step C W C' W') : Env lp many to bm bY bt be C' W' :=
  ⟨h.m.1.step hs h.m.2, h.y.1.step hs h.y.2, h.t.1.step hs h.t.2, h.e.1.step hs h.e.2⟩

/-- A row that lies in memory from block nb on. -/
def OwnR (nb : Nat) (W : World) (a : Option Addr) (c : Nat) (l : List Int) : Prop := W.ownsRow nb 3 1 (.slice a l.length c) l.length (l.map (Value.int .i64))
theorem OwnR.heap {nb : Nat} {W W' : World} {a : Option Addr} {c : Nat} {l : List Int} (h : OwnR nb W a c l) (hk : ∀ g, a = some ⟨g, 0, none⟩ → nb ≤ g → g < W.heap.size → (∃ cs, Blk W g cs 3) → W'.heap[g]? = W.heap[g]?) : OwnR nb W' a c l := by
  refine ⟨h.1, h.2.imp id ?_⟩
  rintro ⟨g, cap, cur, e1, e2, e3, e4⟩
  refine ⟨g, cap, cur, e1, e2, ?_, e4⟩
  rw [hk g (by cases e1; rfl) e2 (Blk.lt e3) ⟨cur, e3⟩]; exact e3
theorem OwnR.nil (nb : Nat) (W : World) : OwnR nb W none 0 [] := World.ownsRow_nil _ _ _ _
/-- A slice that is none of the caller's. -/
structure SlA (nb : Nat) (C : Nat → Prop) (W : World) (a : Option Addr) (c : Nat) (l : List Int) : Prop where
  ints : Ints W a l
  nil : a = none → c = 0
  cap : l.length ≤ c
  free : ∀ g o, a = some ⟨g, o, none⟩ → g < W.heap.size ∧ ¬ C g
  own : OwnR nb W a c l
theorem SlA.step {nb : Nat} {C C' : Nat → Prop} {W W' : World} {a : Option Addr} {c : Nat} {l : List Int} (h : SlA nb C W a c l) (hs : Step C W C' W') : SlA nb C' W' a c l := by
  refine ⟨?_, h.nil, h.cap, fun g o e => ?_, h.own.heap fun g e _ hg _ => (hs.old g hg (h.free g 0 e).2).2⟩
  · rcases h.ints with h0 | ⟨g, o, ha, hg, hc⟩
    · exact .inl h0
    · refine .inr ⟨g, o, ha, Nat.lt_of_lt_of_le hg hs.size, fun i u hu => ?_⟩
      rw [World.cell?_of_block ((hs.old g hg (h.free g o ha).2).2)]
      exact hc i u hu
  · have := h.free g o e
    exact ⟨Nat.lt_of_lt_of_le this.1 hs.size, (hs.old g this.1 this.2).1⟩

/-- What is handed over reads as the list. -/
def ArgL (nb : Nat) (x : List Int) (v : Value) (W : World) : Prop := ∃ a c, v = .slice a x.length c ∧ Ints W a x ∧ (a = none → c = 0) ∧ x.length ≤ c ∧ OwnR nb W a c x

/-- What extend comes to. -/
def ExtPost (J Jx : List (List Int) → (Nat → Prop) → World → Prop) (total nxt : List (List Int)) (C : Nat → Prop) (W : World) (e : Ending) (B : World) : Prop :=
  ∃ b, e = .returned (.bool b) ∧ (b = true → ∃ C', Step C W C' B ∧ J nxt C' B) ∧ (b = false → ∃ C' pre x post, total = pre ++ x :: post ∧ Jx (pre ++ [x]) C' B)

theorem lsts_length : ∀ (m fr fuel : Nat) (x : List Int), x ∈ lsts m fr fuel → x.length = m := by
  intro m
  induction m with
  | zero => intro fr fuel x h; simp [lsts] at h; simp [h]
  | succ m ih =>
    intro fr fuel
    induction fuel generalizing fr with
    | zero => intro x h; simp [lsts] at h
    | succ n ihn =>
      intro x h
      simp only [lsts, List.mem_append, List.mem_map] at h
      rcases h with ⟨y, hy, rfl⟩ | h
      · simp [ih _ _ _ hy]
      · exact ihn _ _ h

theorem ownsRow_base {w : World} {base base' e size n : Nat} {v : Value} {xs : List Value} (h : w.ownsRow base e size v n xs) (hb : base' ≤ base) : w.ownsRow base' e size v n xs := by
  refine ⟨h.1, ?_⟩
  rcases h.2 with h2 | ⟨g, cap, cur, hv, hg, r⟩
  · exact .inl h2
  · exact .inr ⟨g, cap, cur, hv, Nat.le_trans hb hg, r⟩

theorem step_clone {ops : Array Oper} {o : Oper} {act : Act} {w : World} {K : Act → World → Prop} {Q : Exit → Act → World → Prop} {E : Prop}
    (hg : o.guard = none) (x : Operand) (hop : o.op = Op.call { callee := .value (.func 84), args := #[x], argTypes := #[24] }) (a : Option Addr) (c : Nat) (l : List Int) (hx : act.eval x = .slice a l.length c)
    (base : Nat) (W : World) (hI : Ints W a l) (hW : W.heap.size = base) (hb : Below base W w) (hn : a = none → l = [] ∧ c = 0) (hl : l.length ≤ 1000)
    (hK : ∀ a1 c1 w', w'.ownsRow base 3 1 (.slice a1 l.length c1) l.length (l.map (Value.int .i64)) → Below base W w' → Below w.heap.size w w' → K (act.put o.dst (.slice a1 l.length c1)) w') : if Region.wanted o (yielded ops act.tmps) = true then Oper.wp Tryz.prog o act w K Q else E := by
  subst hW
  refine step_call hg (.func 84) [x] #[24] hop 84 [] rfl Tryz.call84 [.slice a l.length c] (by simp [hx]) (clone_any a c l w (hI.below hb (Nat.le_refl _)) hn hl) ?_
  rintro e w' ⟨a1, c1, rfl, hown, hb'⟩
  exact ⟨_, rfl, hK a1 c1 w' (ownsRow_base hown hb.size) (hb.trans (hb'.mono hb.size)) hb'⟩

section
variable (lp many to bm bY bt be nb : Nat) (J Jx : List (List Int) → (Nat → Prop) → World → Prop) (total : List (List Int))

/-- The call of yield. -/
def YieldOk : Prop := ∀ pre x post v C A, total = pre ++ x :: post → J pre C A → (∀ k, C k → k < A.heap.size) → ArgL nb x v A → YieldAt Fence.wide 0 Tryz.prog lp #[v] A fun e B => ∃ C', Grew C C' A B ∧
      ((e = .returned (.bool true) ∧ J (pre ++ [x]) C' B) ∨ (e = .returned (.bool false) ∧ Jx (pre ++ [x]) C' B))

set_option maxHeartbeats 400000 in
theorem ext_zero (hY : YieldOk lp nb J Jx total) (a : Option Addr) (c : Nat) (l : List Int) (fr : Nat) (pre post : List (List Int)) (C : Nat → Prop) (W : World) (hl : l.length = many) (hE : Env lp many to bm bY bt be C W) (hS : SlA nb C W a c l) (hC : ∀ k, C k → k < W.heap.size)
    (ht : total = pre ++ l :: post) (hj : J pre C W) :
    Calls Tryz.prog 83 #[.slice a l.length c, .int .i64 fr, .pointer (some ⟨bm, 0, none⟩), .pointer (some ⟨bY, 0, none⟩), .pointer (some ⟨bt, 0, none⟩), .pointer (some ⟨be, 0, none⟩)] W (ExtPost J Jx total (pre ++ [l]) C W) := by
  have q1 := hE.m.1.cell 0
  have q2 := hE.y.1.cell 0
  simp only [List.getElem?_toArray, List.getElem?_cons_zero] at q1 q2
  have h0 : ((l.length : Int) == (many : Int)) = true := beq_iff_eq.2 (by omega)
  obtain ⟨fn, tmps, assign, body, hy, hR⟩ := hY pre l post (.slice a l.length c) C W ht hj hC ⟨a, c, rfl, hS.ints, hS.nil, hS.cap, hS.own⟩
  have HR := hid hR
  have HT := hid ht
  have HL := hid hl
  clear hR ht hE hS hj hl hY hC
  refine (callsIn_wide (n := 0)).1 (callsIn_of_wp Tryz.func83 rfl trivial ?_ rfl)
  simp only [Tryz.ntmps83, List.size_toArray, List.length_cons, List.length_nil, Nat.reduceAdd, Nat.reduceSub, Array.replicate_succ, Array.replicate_zero, List.push_toArray, List.append_toArray, List.nil_append, List.cons_append]
  gi_wp2
  refine ⟨rfl, HR.out.mono ?_⟩
  rintro e B ⟨C', hG, (⟨rfl, hJ'⟩ | ⟨rfl, hJx'⟩)⟩
  · have H1 := hid (And.intro hG hJ')
    clear hG hJ'
    gi_wp2
    go_ret
    exact ⟨true, rfl, fun _ => ⟨C', Step.grew H1.out.1, H1.out.2⟩, fun h => nomatch h⟩
  · have H1 := hid hJx'
    clear hG hJx'
    gi_wp2
    go_ret
    exact ⟨false, rfl, (fun h => nomatch h), fun _ => ⟨C', pre, l, post, HT.out, H1.out⟩⟩

/-- The lists from a position on. -/
def nxt (m fr : Nat) (l : List Int) : List (List Int) := (lsts m fr (to - fr)).map (l ++ ·)
theorem nxt_zero (fr : Nat) (l : List Int) : nxt to 0 fr l = [l] := by simp [nxt, lsts]
theorem nxt_end (m fr : Nat) (l : List Int) (h : to ≤ fr) : nxt to (m + 1) fr l = [] := by simp [nxt, Nat.sub_eq_zero_of_le h, lsts]
theorem nxt_step (m fr : Nat) (l : List Int) (h : fr < to) : nxt to (m + 1) fr l = nxt to m (fr + 1) (l ++ [(fr : Int)]) ++ nxt to (m + 1) (fr + 1) l := by
  obtain ⟨d, hd⟩ : ∃ d, to = fr + 1 + d := ⟨to - (fr + 1), by omega⟩
  unfold nxt
  rw [show to - fr = d + 1 by omega, show to - (fr + 1) = d by omega, lsts, List.map_append, List.map_map]
  rw [show ((fun x => l ++ x) ∘ fun x => (fr : Int) :: x) = (fun x => l ++ [(fr : Int)] ++ x) from funext fun x => by simp]

set_option maxRecDepth 100000 in
set_option maxHeartbeats 2000000 in
theorem ext_any (hJ : Firm J) (hmany : many ≤ 100) (hto : to ≤ 1000) (hY : YieldOk lp nb J Jx total) : ∀ (m : Nat) (a : Option Addr) (c : Nat) (l : List Int) (fr : Nat) (pre post : List (List Int)) (C : Nat → Prop) (W : World), l.length + m = many → fr ≤ 1001 → nb ≤ W.heap.size → Env lp many to bm bY bt be C W → SlA nb C W a c l → (∀ k, C k → k < W.heap.size) →
    total = pre ++ nxt to m fr l ++ post → J pre C W →
    Calls Tryz.prog 83 #[.slice a l.length c, .int .i64 fr, .pointer (some ⟨bm, 0, none⟩), .pointer (some ⟨bY, 0, none⟩), .pointer (some ⟨bt, 0, none⟩), .pointer (some ⟨be, 0, none⟩)] W (ExtPost J Jx total (pre ++ nxt to m fr l) C W) := by
  intro m
  induction m with
  | zero =>
    intro a c l fr pre post C W hl _ _ hE hS hC ht hj
    rw [nxt_zero] at ht ⊢
    exact ext_zero lp many to bm bY bt be nb J Jx total hY a c l fr pre post C W (by omega) hE hS hC (by simpa using ht) hj
  | succ m ih =>
    intro a c l fr pre post C W hl hfr hnb hE hS hC ht hj
    have IH := hid ih
    have q1 := hE.m.1.cell 0
    simp only [List.getElem?_toArray, List.getElem?_cons_zero] at q1
    have h0 : ((l.length : Int) == (many : Int)) = false := beq_eq_false_iff_ne.2 (by omega)
    have hll : l.length ≤ 99 := by omega
    have HNB := hid hnb
    have HL := hid hl
    have HES := hid (And.intro hE (And.intro hS hC))
    have HT := hid ht
    have HJ := hid hj
    clear ih hE hS ht hj hC hl hY hnb
    go_enter Tryz.func83, Tryz.ntmps83
    go_wp2_with fail
    go_loopw [9] (fun i wr => ∃ (k : Nat) (C' : Nat → Prop) (pre' : List (List Int)), i = .int .i64 k ∧ k ≤ 1001 ∧ Hid (Step C W C' wr ∧ J pre' C' wr ∧ pre' ++ nxt to (m + 1) k l = pre ++ nxt to (m + 1) fr l)) (fun i _ => 1001 - (intOf i).toNat)
    case atStart => exact ⟨fr, C, pre, rfl, hfr, Step.refl HES.out.2.2, HJ.out, rfl⟩
    case round =>
      obtain ⟨k, C', pre', rfl, hk, HK⟩ := hrel
      have hEk := HES.out.1.step HK.out.1
      have hSk := HES.out.2.1.step HK.out.1
      have q3 := hEk.t.1.cell 0
      have q4 := hEk.e.1.cell 0
      have hbe := hEk.e.1.lt
      simp only [List.getElem?_toArray, List.getElem?_cons_zero] at q3 q4
      by_cases hlt : k < to
      · have HCL := hid (And.intro hSk.ints (show a = none → l = [] ∧ c = 0 from fun h => ⟨List.eq_nil_of_length_eq_zero (by have := hSk.nil h; have := hSk.cap; omega), hSk.nil h⟩))
        obtain ⟨L2, hL2⟩ : ∃ L2, L2 = l ++ [(k : Int)] := ⟨_, rfl⟩
        have hll2 : L2.length = l.length + 1 := by rw [hL2]; simp
        have HLL := hid hll2
        have CALL := fun (B : World) (a2 : Option Addr) (c2 : Nat) (hb : Below wr.heap.size wr B) (ho : B.ownsRow wr.heap.size 3 1 (.slice a2 L2.length c2) L2.length (L2.map (Value.int .i64))) => hid (
          show Calls Tryz.prog 83 #[.slice a2 L2.length c2, .int .i64 ((k : Int) + 1), .pointer (some ⟨bm, 0, none⟩), .pointer (some ⟨bY, 0, none⟩), .pointer (some ⟨bt, 0, none⟩), .pointer (some ⟨be, 0, none⟩)] B (ExtPost J Jx total (pre' ++ nxt to m (k + 1) L2) C' B) from by
            have hst := Step.below hb HK.out.1.lt
            obtain ⟨a2', c2', he, hr2⟩ := ownsRow_ints ho
            simp only [Value.slice.injEq] at he
            obtain ⟨rfl, -, rfl⟩ := he
            obtain ⟨-, hcap, hnil⟩ := ownsRow_facts ho
            refine IH.out a2 c2 L2 (k + 1) pre' (nxt to (m + 1) (k + 1) l ++ post) C' B (by have := HL.out; omega) (by omega) (Nat.le_trans HNB.out (Nat.le_trans HK.out.1.size hb.size)) (hEk.step hst) ⟨hr2, hnil, hcap, fun g o e => ?_, ownsRow_base ho (Nat.le_trans HNB.out HK.out.1.size)⟩ hst.lt ?_ (hJ _ _ _ _ HK.out.2.1 hb)
            · have h1 := ho.lt g (by rw [e]; rfl)
              exact ⟨h1.2, fun h => by have := HK.out.1.lt g h; omega⟩
            · rw [HT.out, ← HK.out.2.2, nxt_step to m k l hlt, hL2]; simp)
        have HL2 := hid hL2
        clear hEk hSk hL2 hll2
        go_wp2_with fail
        have HW := hid (Below.refl wr.heap.size wr)
        have hwr : IntKind.i64.wrap ((k : Int) + 1) = (k : Int) + 1 := IntWalk.i64_in _ (by omega)
        go_region_law (first
          | (refine step_clone rfl (.tmp 24) rfl a c l rfl wr.heap.size wr HCL.out.1 rfl ?_ HCL.out.2 (by omega) ?_
             · first | exact HW.out.drew | exact (HW.out.alloc (Nat.le_refl _) _).drew | exact HW.out.drew.alloc (Nat.le_refl _) _
             intro a1 c1 w1 hown1 hb1 hb1'
             have q41 := (hb1.cell (p := ⟨be, 0, none⟩) hbe).trans q4
             have hb1s := hb1.size
             have hbe1 : be < w1.heap.size := Nat.lt_of_lt_of_le hbe hb1s
             have H1 := hid (And.intro hown1 (And.intro hb1 hb1'))
             clear hown1 hb1 hb1')
          | (refine step_call rfl (.tmp 23) [.tmp 28, .tmp 30] #[24, 3] rfl 83 [.pointer (some ⟨bm, 0, none⟩), .pointer (some ⟨bY, 0, none⟩), .pointer (some ⟨bt, 0, none⟩), .pointer (some ⟨be, 0, none⟩)] rfl Tryz.call83 [.slice a2 L2.length c2, .int .i64 ((k : Int) + 1), .pointer (some ⟨bm, 0, none⟩), .pointer (some ⟨bY, 0, none⟩), .pointer (some ⟨bt, 0, none⟩), .pointer (some ⟨be, 0, none⟩)] rfl (CALL w2 a2 c2 H2.out.1 H2.out.2).out ?_
             rintro e w3 ⟨b, rfl, hp⟩
             refine ⟨.bool b, rfl, ?_⟩
             have HP := hid hp
             clear hp)
          | (refine step_app rfl (.tmp 25) (.tmp 27) 24 rfl wr.heap.size 3 (.int .i64 0) 8 Tryz.underlying24 infoS3 rfl (.slice a1 l.length c1) l.length _ rfl (H1.out.1.alloc _) (some ⟨w1.heap.size, 0, none⟩) 1 1 [.int .i64 k] rfl rfl (vals_new _ _ _ _ rfl) (fun h => by cases h) (by simp [Value.oneCell']) (by omega) (by omega) ?_ ?_
             · simp; omega
             intro v2 w2 hown2 hg2
             have hown2' : w2.ownsRow wr.heap.size 3 1 v2 L2.length (L2.map (Value.int .i64)) := by rw [HLL.out, HL2.out, List.map_append]; exact hown2
             obtain ⟨a2, c2, rfl, -⟩ := ownsRow_ints (l := L2) hown2'
             have hb2 : Below wr.heap.size wr w2 := below_app (H1.out.2.1.alloc hb1s _) hg2 (H1.out.1.alloc _) (by simp; omega) (Nat.le_refl _)
             have q42 := (hb2.cell (p := ⟨be, 0, none⟩) hbe).trans q4
             have H2 := hid (And.intro hb2 hown2')
             clear hown2 hg2 hown2' hb2)
          | (refine step_app rfl (.tmp 25) (.tmp 27) 24 rfl wr.heap.size 3 (.int .i64 0) 8 Tryz.underlying24 infoS3 rfl (.slice a1 l.length c1) l.length _ rfl H1.out.1 (some ⟨wr.heap.size, 0, none⟩) 1 1 [.int .i64 k] rfl rfl (Vals.below (vals_drew (vals_new wr #[.int .i64 k] 3 _ rfl)) H1.out.2.2 (Nat.le_refl _)) (fun h => by cases h) (by simp [Value.oneCell']) (by omega) (by omega) hb1s ?_
             intro v2 w2 hown2 hg2
             have hown2' : w2.ownsRow wr.heap.size 3 1 v2 L2.length (L2.map (Value.int .i64)) := by rw [HLL.out, HL2.out, List.map_append]; exact hown2
             obtain ⟨a2, c2, rfl, -⟩ := ownsRow_ints (l := L2) hown2'
             have hb2 : Below wr.heap.size wr w2 := below_app H1.out.2.1 hg2 H1.out.1 hb1s (Nat.le_refl _)
             have q42 := (hb2.cell (p := ⟨be, 0, none⟩) hbe).trans q4
             have H2 := hid (And.intro hb2 hown2')
             clear hown2 hg2 hown2' hb2)
          )
        all_goals
          cases b
          · have HP2 := hid (HP.out.2 rfl)
            clear HP CALL
            go_wp2
            go_ret
            exact ⟨false, rfl, (fun h => nomatch h), fun _ => HP2.out⟩
          · obtain ⟨C'', hst, hj⟩ := HP.out.1 rfl
            have hfin : Step C W C'' w3 ∧ J (pre' ++ nxt to m (k + 1) L2) C'' w3 ∧ (pre' ++ nxt to m (k + 1) L2) ++ nxt to (m + 1) (k + 1) l = pre ++ nxt to (m + 1) fr l :=
              ⟨HK.out.1.trans ((Step.below H2.out.1 HK.out.1.lt).trans hst), hj, by rw [HL2.out, List.append_assoc, ← nxt_step to m k l hlt]; exact HK.out.2.2⟩
            have HF := hid hfin
            clear HP CALL hst hj hfin
            go_wp2
            go_roundw
            case rel => exact ⟨k + 1, C'', _, by go_num, by omega, HF⟩
            case measure => simp [intOf]; omega
      · have hfin : pre' = pre ++ nxt to (m + 1) fr l := by rw [← HK.out.2.2, nxt_end to m k l (by omega), List.append_nil]
        have HF := hid hfin
        clear hfin hEk hSk
        go_wp2
        go_ret
        exact ⟨true, rfl, fun _ => ⟨C', HK.out.1, by rw [← HF.out]; exact HK.out.2.1⟩, fun h => nomatch h⟩
end
end Go.Proofs.YtkmpdcckgibkhaaGreat
/-
  Walks: all lists of cuts, one by one.
-/
namespace Go.Proofs.YtkmpdcckgibkhaaGreat
open Go.RowKit

set_option maxHeartbeats 400000 in
theorem lists_any (many fr to : Int) (w : World) :
    Calls Tryz.prog 46 #[.int .i64 many, .int .i64 fr, .int .i64 to] w fun e w' =>
      e = .returned (.func (.func 82) #[] #[.pointer (some ⟨w.heap.size, 0, none⟩), .pointer (some ⟨w.heap.size + 1 + 1, 0, none⟩), .pointer (some ⟨w.heap.size + 1, 0, none⟩)]) ∧
      ((w.alloc (.cells #[.int .i64 many] 3)).alloc (.cells #[.int .i64 fr] 3)).alloc (.cells #[.int .i64 to] 3) = w' := by
  go_enter Tryz.func46, Tryz.ntmps46
  go_wp2
  go_ret
  exact ⟨rfl, rfl⟩

set_option maxHeartbeats 400000 in
theorem lists_iter (nb many fr to bm bt bf : Nat) (C₀ : Nat → Prop) (W : World) (hm : many ≤ 100) (ht : to ≤ 1000) (hf : fr ≤ 1000) (hnb : nb ≤ W.heap.size) (h1 : Blk W bm #[.int .i64 many] 3 ∧ ¬ C₀ bm) (h2 : Blk W bt #[.int .i64 to] 3 ∧ ¬ C₀ bt) (h3 : Blk W bf #[.int .i64 fr] 3) :
    Iter Tryz.prog 82 #[.pointer (some ⟨bm, 0, none⟩), .pointer (some ⟨bt, 0, none⟩), .pointer (some ⟨bf, 0, none⟩)] (ArgL nb) (nxt to many fr []) C₀ W := by
  intro l J Jx hJ hJx hY hC h0
  have q3 := h3.cell 0
  simp only [List.getElem?_toArray, List.getElem?_cons_zero] at q3
  have hb3 := h3.lt
  have hb1 := h1.1.lt
  have hb2 := h2.1.lt
  obtain ⟨W2, hW2⟩ : ∃ W2, W2 = (W.alloc (.cells #[.func (.yield l) #[] #[]] 100)).alloc (.cells #[.func (.func 83) #[] #[.pointer (some ⟨bm, 0, none⟩), .pointer (some ⟨W.heap.size, 0, none⟩), .pointer (some ⟨bt, 0, none⟩), .pointer (some ⟨W.heap.size + 1, 0, none⟩)]] 136) := ⟨_, rfl⟩
  have hb : Below W.heap.size W W2 := by rw [hW2]; exact ((Below.refl _ W).alloc (Nat.le_refl _) _).alloc (by simp) _
  have hst := Step.below hb hC
  have hE : Env l many to bm W.heap.size bt (W.heap.size + 1) C₀ W2 := by
    refine ⟨h1.1.step hst h1.2, ⟨?_, fun h => by have := hC _ h; omega⟩, h2.1.step hst h2.2, ⟨?_, fun h => by have := hC _ h; omega⟩⟩
    · rw [hW2]; exact (Blk.new W _ _).alloc _
    · rw [hW2]; exact Blk.mk' (by simp) rfl
  have CL := hid (ext_any l many to bm W.heap.size bt (W.heap.size + 1) nb J Jx (nxt to many fr []) hJ hm ht hY many none 0 [] fr [] [] C₀ W2 (by simp) (by omega) (Nat.le_trans hnb hb.size) hE ⟨Ints.nil _ _, fun _ => rfl, by simp, (fun g o e => by cases e), OwnR.nil _ _⟩ hst.lt (by simp) (hJ _ _ _ _ h0 hb))
  subst hW2
  clear h1 h2 h3 hE hst hY hJ hJx h0 hC hb
  go_enter Tryz.func82, Tryz.ntmps82
  go_wp2_with fail
  refine CL.out.mono ?_
  rintro e B ⟨b, rfl, p1, p2⟩
  have P1 := hid p1
  have P2 := hid p2
  clear p1 p2 CL
  go_wp2
  go_end0
  refine ⟨⟨_, rfl⟩, ?_⟩
  cases b
  · obtain ⟨C', pre, x, post, h1, h2⟩ := P2.out rfl
    exact ⟨C', .inr ⟨pre, x, post, h1, h2⟩⟩
  · obtain ⟨C', _, h2⟩ := P1.out rfl
    exact ⟨C', .inl (by simpa using h2)⟩

/-- What Least returns. -/
def RetCuts (l : List Int) (no : Int) (w : World) (e : Ending) (w' : World) : Prop := ∃ a c, e = .returned (.tuple #[.slice a l.length c, .int .i64 no]) ∧ Ints w' a l ∧ (a = none → c = 0) ∧ l.length ≤ c ∧ Below w.heap.size w w'

/-- The same, in memory of the call's own. -/
def RetCutsO (l : List Int) (no : Int) (w : World) (e : Ending) (w' : World) : Prop := ∃ a c, e = .returned (.tuple #[.slice a l.length c, .int .i64 no]) ∧ Ints w' a l ∧ (a = none → c = 0) ∧ l.length ≤ c ∧ Below w.heap.size w w' ∧ OwnR w.heap.size w' a c l
theorem RetCutsO.ret {l : List Int} {no : Int} {w w' : World} {e : Ending} (h : RetCutsO l no w e w') : RetCuts l no w e w' := by
  obtain ⟨a, c, h1, h2, h3, h4, h5, -⟩ := h
  exact ⟨a, c, h1, h2, h3, h4, h5⟩

/-- The first fair list among so many cuts. -/
def firstB (ring : Bool) (l : List UInt8) (many : Nat) : Option (List Int) := (nxt l.length many (if ring then 0 else 1) []).find? (testB ring l)

theorem firstB_srch (ring : Bool) (l : List UInt8) (many : Nat) : firstB ring l many = srch ring l [] many (if ring then 0 else 1) := rfl
end Go.Proofs.YtkmpdcckgibkhaaGreat
/-
  Walks: the fewest cuts of a chain.
-/
namespace Go.Proofs.YtkmpdcckgibkhaaGreat
open Go.RowKit
attribute [local go_sem] Oper.semAt_some

/-- The boxes of a function that returns cuts: its string, its two results. -/
structure LB (n : Nat) (s : ByteArray) (va : Value) (no : Int) (W : World) : Prop where
  s : Blk W n #[.string s] 9
  v : Blk W (n + 1) #[va] 24
  e : Blk W (n + 1 + 1) #[.int .i64 no] 25
theorem LB.new (w : World) (s : ByteArray) (va : Value) (no : Int) : LB w.heap.size s va no (((w.alloc (.cells #[.string s] 9)).alloc (.cells #[va] 24)).alloc (.cells #[.int .i64 no] 25)) :=
  ⟨((Blk.new w _ _).alloc _).alloc _, (Blk.mk' (by simp) rfl : Blk _ _ _ _).alloc _, Blk.mk' (by simp) rfl⟩
theorem LB.below {n : Nat} {s : ByteArray} {va : Value} {no : Int} {W W' : World} {B : Nat} (h : LB n s va no W) (hb : Below B W W') (hB : n + 1 + 1 < B) : LB n s va no W' :=
  ⟨h.s.below hb (by omega), h.v.below hb (by omega), h.e.below hb hB⟩
theorem LB.facts {n : Nat} {s : ByteArray} {va : Value} {no : Int} {W : World} (h : LB n s va no W) :
    W.cell? ⟨n, 0, none⟩ = some (.string s) ∧ W.cell? ⟨n + 1, 0, none⟩ = some va ∧ W.cell? ⟨n + 1 + 1, 0, none⟩ = some (.int .i64 no) ∧ W.frozen? ⟨n + 1, 0, none⟩ = false ∧ W.frozen? ⟨n + 1 + 1, 0, none⟩ = false := by
  have a := h.s.cell 0
  have b := h.v.cell 0
  have c := h.e.cell 0
  simp only [List.getElem?_toArray, List.getElem?_cons_zero] at a b c
  exact ⟨a, b, c, h.v.free 0, h.e.free 0⟩
theorem LB.firm {n : Nat} {s : ByteArray} {va : Value} {no : Int} {W W' : World} {l : Nat} (h : LB n s va no W) (hl : n + 1 + 1 < l) (hk : ∀ k, k < W.heap.size → k ≠ l → W'.heap[k]? = W.heap[k]?) : LB n s va no W' :=
  ⟨(hk _ h.s.lt (by omega)).trans h.s, (hk _ h.v.lt (by omega)).trans h.v, (hk _ h.e.lt (by omega)).trans h.e⟩
theorem LB.put {n : Nat} {s : ByteArray} {va : Value} {no : Int} {W : World} (h : LB n s va no W) (va' : Value) (no' : Int) : LB n s va' no' ((W.setCell ⟨n + 1, 0, none⟩ va').setCell ⟨n + 1 + 1, 0, none⟩ (.int .i64 no')) :=
  ⟨(h.s.other _ (by simp) _).other _ (by simp; omega) _, (h.v.set 0 va').other _ (by simp) _, (h.e.other _ (by simp) _).set 0 _⟩
theorem LB.ints {n : Nat} {s : ByteArray} {a0 : Option Addr} {l0 c0 : Nat} {no : Int} {W : World} (h : LB n s (.slice a0 l0 c0) no W) {a : Option Addr} {x : List Int} (hi : Ints W a x) (va' : Value) : Ints ((W.setCell ⟨n + 1, 0, none⟩ va').setCell ⟨n + 1 + 1, 0, none⟩ (.int .i64 no)) a x := by
  rcases hi with hi | ⟨g, o, ha, hg, hc⟩
  · exact .inl hi
  obtain ⟨-, h1, h2, -⟩ := h.facts
  refine .inr ⟨g, o, ha, by simpa [World.setCell] using hg, fun i u hu => ?_⟩
  have h3 := hc i u hu
  obtain ⟨y, -, rfl⟩ : ∃ y, x[i]? = some y ∧ Value.int .i64 y = u := by simpa using hu
  have e1 : (⟨n + 1, 0, none⟩ : Addr) ≠ ⟨g, o + i, none⟩ := fun e => by rw [← e, h1] at h3; cases h3
  have h4 : (W.setCell ⟨n + 1, 0, none⟩ va').cell? ⟨g, o + i, none⟩ = some (.int .i64 y) := by rw [World.cell?_setCell_other (h := e1), h3]
  by_cases e2 : (⟨n + 1 + 1, 0, none⟩ : Addr) = ⟨g, o + i, none⟩
  · rw [← e2, h2] at h3; cases h3
    rw [← e2]; rw [← e2] at h4
    exact World.cell?_setCell_same _ _ _ h4
  · rw [World.cell?_setCell_other (h := e2), h4]
theorem LB.shut {B n : Nat} {s : ByteArray} {va : Value} {no : Int} {W W' : World} (h : LB n s va no W) (hs : ShutM B W W') : LB n s va no W' := ⟨hs.blk h.s, hs.blk h.v, hs.blk h.e⟩
theorem LB.other {n : Nat} {s : ByteArray} {va : Value} {no : Int} {W : World} (h : LB n s va no W) (p : Addr) (hp : n + 1 + 1 < p.block) (u : Value) : LB n s va no (W.setCell p u) :=
  ⟨h.s.other _ (by omega) _, h.v.other _ (by omega) _, h.e.other _ (by omega) _⟩

set_option maxHeartbeats 1000000 in
theorem least_odd (s : ByteArray) (w : World) (hs : s.size ≤ 1000) (h : evenChainB s.data.toList = false) :
    Calls Tryz.prog 19 #[.string s] w (RetCutsO [] 2 w) := by
  have H := hid h
  clear h
  go_enter Tryz.func19, Tryz.ntmps19
  go_wp2_with fail
  refine (isEven_any s _ (by omega)).mono ?_
  rintro e w1 ⟨rfl, hb⟩
  rw [H.out]
  have hlb := (LB.new w s (.slice none 0 0) 0).below hb (by simp)
  have hbw : Below w.heap.size w w1 := ((((Below.refl _ w).alloc (Nat.le_refl _) _).alloc (by simp) _).alloc (by simp; omega) _).trans (hb.mono (by simp; omega))
  obtain ⟨q0, q1, q2, f1, f2⟩ := hlb.facts
  have HLB := hid hlb
  clear hlb hb
  go_wp2
  obtain ⟨-, r1, r2, -⟩ := (HLB.out.put (.slice none 0 0) 2).facts
  refine bodyPost_ret (v := .tuple #[.slice none 0 0, .int .i64 2]) (by simp [results, Tryz.results19, go_sem, r1, r2]) rfl ⟨none, 0, rfl, Ints.nil _ _, fun _ => rfl, Nat.le_refl _, ?_, OwnR.nil _ _⟩
  exact (hbw.setCell (by simp) _).setCell (by simp; omega) _

/-- The marks and the boxes. -/
structure MB (n l B : Nat) (ds : List Deferred) (s : ByteArray) (va : Value) (no : Int) (w W : World) : Prop where
  lb : LB n s va no W
  marks : MarksOk B ds W
  lt : ∀ D, { target := .collected D, args := #[] } ∈ ds → D < l
  nl : n + 1 + 1 < l
  nB : n + 1 + 1 < B
  below : Below w.heap.size w W
theorem MB.firm {n l B : Nat} {ds : List Deferred} {s : ByteArray} {va : Value} {no : Int} {w A C : World} (h : MB n l B ds s va no w A) (hl : w.heap.size ≤ l) (hs : A.heap.size ≤ C.heap.size) (ho : C.os = A.os) (ht : C.tape = A.tape) (hp : C.output = A.output) (hk : ∀ k, k < A.heap.size → k ≠ l → C.heap[k]? = A.heap[k]?) : MB n l B ds s va no w C := by
  refine ⟨h.lb.firm h.nl hk, ?_, h.lt, h.nl, h.nB, h.below.trans ⟨ho, ht, hp, hs, fun k hkB => hk k (by have := h.below.size; omega) (by omega)⟩⟩
  obtain ⟨Ds, h1, h2, h3⟩ := h.marks
  refine ⟨Ds, h1, h2, fun D hD => ?_⟩
  obtain ⟨a, b, c⟩ := h3 D hD
  have := h.lt D (by rw [h1]; exact List.mem_map.2 ⟨D, hD, rfl⟩)
  exact ⟨a, by omega, (hk D b (by omega)).trans c⟩
theorem MB.step {n l B : Nat} {ds : List Deferred} {s : ByteArray} {va : Value} {no : Int} {w A C : World} (h : MB n l B ds s va no w A) (hb : Below A.heap.size A C) : MB n l B ds s va no w C :=
  ⟨h.lb.below hb h.lb.e.lt, h.marks.keeps hb.size (fun k _ hk _ => hb.block k hk), h.lt, h.nl, h.nB, h.below.trans (hb.mono h.below.size)⟩
theorem MB.put {n l B : Nat} {ds : List Deferred} {s : ByteArray} {va : Value} {no : Int} {w A : World} (h : MB n l B ds s va no w A) (hn : w.heap.size ≤ n) (va' : Value) (no' : Int) : MB n l B ds s va' no' w ((A.setCell ⟨n + 1, 0, none⟩ va').setCell ⟨n + 1 + 1, 0, none⟩ (.int .i64 no')) := by
  refine ⟨h.lb.put va' no', h.marks.keeps (by simp [World.setCell]) (fun k hk _ _ => ?_), h.lt, h.nl, h.nB, (h.below.setCell (by simp; omega) _).setCell (by simp; omega) _⟩
  have := h.nB
  exact (Below.heap_setCell _ _ _ _ (by simp; omega)).trans (Below.heap_setCell _ _ _ _ (by simp; omega))
theorem MB.cons {n l l' B D : Nat} {ds : List Deferred} {s : ByteArray} {va : Value} {no : Int} {w A : World} (h : MB n l B ds s va no w A) (hB : B ≤ D) (hD : A.heap[D]? = some (.deferred (some []))) (hn : ∀ k, { target := .collected k, args := #[] } ∈ ds → k ≠ D) (hl : l ≤ l') (hDl : D < l') : MB n l' B ({ target := .collected D, args := #[] } :: ds) s va no w A :=
  ⟨h.lb, h.marks.cons hB hD hn, fun k hk => by
    rcases List.mem_cons.1 hk with e | hk
    · cases e; exact hDl
    · have := h.lt k hk; omega, by have := h.nl; omega, h.nB, h.below⟩

/-- What Least holds between two rounds over the lists of cuts. -/
def LeI (f : List Int → Bool) (n l B : Nat) (ds : List Deferred) (s : ByteArray) (w : World) (pre : List (List Int)) (C : Nat → Prop) (W : World) : Prop :=
  MB n l B ds s (.slice none 0 0) 0 w W ∧ C (n + 1) ∧ C (n + 1 + 1) ∧ (∀ x ∈ pre, f x = false)
theorem LeI_firm (f : List Int → Bool) (n l B : Nat) (ds : List Deferred) (s : ByteArray) (w : World) (hl : w.heap.size ≤ l) : FirmX l (LeI f n l B ds s w) := by
  rintro pre C A B ⟨h1, h2, h3, h6⟩ hs ho ht hp hk
  exact ⟨h1.firm hl hs ho ht hp hk, h2, h3, h6⟩
/-- A row of the call's own, its block not block n. -/
def OwnX (n nb : Nat) (W : World) (a : Option Addr) (c : Nat) (x : List Int) : Prop := OwnR nb W a c x ∧ ∀ g o, a = some ⟨g, o, none⟩ → g ≠ n
theorem OwnX.of {n nb : Nat} {W : World} {a : Option Addr} {c : Nat} {x : List Int} {r : Loop} (h : OwnR nb W a c x) (hn : W.heap[n]? = some (.loop r)) : OwnX n nb W a c x := by
  refine ⟨h, fun g o e e2 => ?_⟩
  subst e2
  rcases h.2 with ⟨h1, -⟩ | ⟨g', cap, cur, h1, -, h3, -⟩
  · rw [e] at h1; cases h1
  · rw [e] at h1; cases h1
    rw [hn] at h3; cases h3
theorem OwnX.firm {n nb : Nat} {w w' : World} {a : Option Addr} {c : Nat} {x : List Int} (h : OwnX n nb w a c x) (hk : ∀ k, k < w.heap.size → k ≠ n → w'.heap[k]? = w.heap[k]?) : OwnX n nb w' a c x :=
  ⟨h.1.heap fun g e _ hg _ => hk g hg (h.2 g 0 e), h.2⟩
/-- What it holds when a round has returned. -/
def LeX (f : List Int → Bool) (n l B : Nat) (ds : List Deferred) (s : ByteArray) (w : World) (total : List (List Int)) (c : Code) (_pre : List (List Int)) (_C : Nat → Prop) (W : World) : Prop :=
  c = .ret ∧ ∃ a cp x, MB n l B ds s (.slice a x.length cp) 0 w W ∧ ValsX l W a (x.map (Value.int .i64)) ∧ (a = none → cp = 0) ∧ x.length ≤ cp ∧ total.find? f = some x ∧ OwnX l (n + 1 + 1 + 1) W a cp x
theorem LeX_firm (f : List Int → Bool) (n l B : Nat) (ds : List Deferred) (s : ByteArray) (w : World) (total : List (List Int)) (hl : w.heap.size ≤ l) (c : Code) : FirmX l (LeX f n l B ds s w total c) := by
  rintro pre C A B ⟨h0, a, cp, x, h1, h2, h3, h7, h5, h8⟩ hs ho ht hp hk
  exact ⟨h0, a, cp, x, h1.firm hl hs ho ht hp hk, h2.firm hs hk, h3, h7, h5, h8.firm hk⟩

theorem argL_put (nb : Nat) (x : List Int) (v : Value) (A : World) (l : Nat) (r o : Loop) (h : ArgL nb x v A) (hl : A.heap[l]? = some (.loop r)) : ArgL nb x v (A.putObj l (.loop o)) := by
  obtain ⟨a, c, e, hi, hn, hc, hw⟩ := h
  refine ⟨a, c, e, ?_, hn, hc, ((OwnX.of hw hl).firm (fun k _ hne => World.putObj_heap_other hne)).1⟩
  exact ((ValsX.of hi hl).firm (by simp) (fun k _ hne => World.putObj_heap_other hne)).1

theorem lsts_ok (n : Nat) : ∀ (d m f : Nat) (x : List Int), x ∈ lsts m f d → f + d ≤ n → x.length = m ∧ cutsB n f x = true := by
  intro d
  induction d with
  | zero => intro m f x hx hn; cases m <;> simp [lsts] at hx; subst hx; exact ⟨rfl, rfl⟩
  | succ d ih =>
    intro m f x hx hn
    cases m with
    | zero => simp [lsts] at hx; subst hx; exact ⟨rfl, rfl⟩
    | succ m =>
      simp only [lsts, List.mem_append, List.mem_map] at hx
      rcases hx with ⟨y, hy, rfl⟩ | hx
      · obtain ⟨h1, h2⟩ := ih m (f + 1) y hy (by omega)
        refine ⟨by simp [h1], ?_⟩
        simp only [cutsB, Bool.and_eq_true, decide_eq_true_eq]
        refine ⟨⟨by omega, by omega⟩, ?_⟩
        rw [← h2]; congr 1
      · obtain ⟨h1, h2⟩ := ih (m + 1) (f + 1) x hx (by omega)
        refine ⟨h1, ?_⟩
        cases x with
        | nil => rfl
        | cons c r =>
          simp only [cutsB, Bool.and_eq_true, decide_eq_true_eq] at h2 ⊢
          exact ⟨⟨by omega, h2.1.2⟩, h2.2⟩
theorem cutsB_le (n : Nat) (f g : Int) (x : List Int) (h : cutsB n f x = true) (hg : g ≤ f) : cutsB n g x = true := by
  cases x with
  | nil => rfl
  | cons c r =>
    simp only [cutsB, Bool.and_eq_true, decide_eq_true_eq] at h ⊢
    exact ⟨⟨by omega, h.1.2⟩, h.2⟩
theorem nxt_ok (n m f : Nat) (x : List Int) (h : x ∈ nxt n m f []) (hf : f ≤ n) : x.length = m ∧ cutsB n 0 x = true := by
  simp only [nxt, List.nil_append, List.map_id'] at h
  obtain ⟨h1, h2⟩ := lsts_ok n _ _ _ _ h (by omega)
  exact ⟨h1, cutsB_le n _ _ x h2 (by omega)⟩
theorem nxt_small (n m f : Nat) (x : List Int) (h : x ∈ nxt n m f []) (hf : n ≤ f) : x.length = m ∧ cutsB n 0 x = true := by
  simp only [nxt, List.nil_append, List.map_id', Nat.sub_eq_zero_of_le hf] at h
  cases m <;> simp [lsts] at h
  subst h; exact ⟨rfl, rfl⟩
theorem tryN_range (g : Nat → Option (List Int)) (n k : Nat) (h : k < n) : tryN g ((List.range n).drop k) = (g k).or (tryN g ((List.range n).drop (k + 1))) := by
  rw [List.drop_eq_getElem_cons (by simpa using h)]
  simp [tryN]

theorem MB.up {n l l' B : Nat} {ds : List Deferred} {s : ByteArray} {va : Value} {no : Int} {w A : World} (h : MB n l B ds s va no w A) (hl : l ≤ l') : MB n l' B ds s va no w A :=
  ⟨h.lb, h.marks, fun D hD => Nat.lt_of_lt_of_le (h.lt D hD) hl, Nat.lt_of_lt_of_le h.nl hl, h.nB, h.below⟩
theorem or_some {f : List Int → Bool} {l : List (List Int)} {o : Option (List Int)} {x : List Int} (h : l.find? f = some x) : ((l.find? f).or o).getD [] = x := by rw [h]; rfl

/-- Leaving with cuts. -/
theorem MB.leave {P : Program} {fn : Func} {tmps : Array Value} {n l B cp : Nat} {ds : List Deferred} {s : ByteArray} {a : Option Addr} {x : List Int} {no : Int} {w W : World} (h : MB n l B ds s (.slice a x.length cp) no w W)
    (hn : n = w.heap.size) (hBW : B ≤ W.heap.size)
    (hres : ∀ w', w'.cell? ⟨n + 1, 0, none⟩ = some (.slice a x.length cp) → w'.cell? ⟨n + 1 + 1, 0, none⟩ = some (.int .i64 no) → (results fn tmps).run P w' = .ok (.tuple #[.slice a x.length cp, .int .i64 no]) w')
    (hi : Ints W a x) (ha : a = none → cp = 0) (hc : x.length ≤ cp) (hw : OwnR (n + 1 + 1 + 1) W a cp x) : LeavesInM Fence.wide 0 P fn tmps (RetCutsO x no w) ds .returning W := by
  have hnB := h.nB
  refine leaves_marks (v := .tuple #[.slice a x.length cp, .int .i64 no]) ds W h.marks hBW (fun w' hs => ?_) (fun w' hs => ?_)
  · obtain ⟨-, r1, r2, -⟩ := (h.lb.shut hs).facts
    exact hres w' r1 r2
  · refine ⟨a, cp, rfl, hs.vals hi, ha, hc, h.below.trans (hs.below.mono (by omega)), ownsRow_base (hw.heap fun g _ _ _ hg => ?_) (by omega)⟩
    obtain ⟨cs, hcs⟩ := hg
    exact (hs.blk hcs).trans hcs.symm
theorem tryN_end (g : Nat → Option (List Int)) (n k : Nat) (h : ¬ k < n) : tryN g ((List.range n).drop k) = none := by
  rw [List.drop_eq_nil_of_le (by simp; omega)]; rfl

set_option maxHeartbeats 2000000 in
theorem least_evenO (s : ByteArray) (w : World) (hs : s.size ≤ 900) (h : evenChainB s.data.toList = true) :
    Calls Tryz.prog 19 #[.string s] w (RetCutsO ((tryN (firstB false s.data.toList) (List.range (kindsN s.data.toList + 1))).getD []) 0 w) := by
  have hok : s.data.toList.all okb = true := by simp [evenChainB, chainB] at h; simpa using h.1.1
  have H := hid h
  have HO := hid hok
  clear h hok
  obtain ⟨g, hg⟩ : ∃ g, g = firstB false s.data.toList := ⟨_, rfl⟩
  rw [← hg]
  obtain ⟨R, hR⟩ : ∃ R, R = (tryN g (List.range (kindsN s.data.toList + 1))).getD [] := ⟨_, rfl⟩
  rw [← hR]
  have HG := hid hg
  have HRR := hid hR
  clear hg hR
  refine (callsIn_wide (n := 0)).1 (callsIn_of_wp_marks Tryz.func19 rfl trivial ?_ rfl)
  simp only [Tryz.ntmps19, List.size_toArray, List.length_cons, List.length_nil, Nat.reduceAdd, Nat.reduceSub, Array.replicate_succ, Array.replicate_zero, List.push_toArray, List.append_toArray, List.nil_append, List.cons_append]
  gi_wp2_with fail
  refine ⟨trivial, rfl, (callsIn_wide.2 (isEven_any s _ (by omega))).mono ?_⟩
  rintro e w1 ⟨rfl, hb⟩
  rw [H.out]
  have hlb := (LB.new w s (.slice none 0 0) 0).below hb (by simp)
  have hbw : Below w.heap.size w w1 := ((((Below.refl _ w).alloc (Nat.le_refl _) _).alloc (by simp) _).alloc (by simp; omega) _).trans (hb.mono (by simp; omega))
  have hsz1 : w.heap.size + 1 + 1 < w1.heap.size := by have := hb.size; simp at this; omega
  obtain ⟨q0, q1, q2, f1, f2⟩ := hlb.facts
  have HLB := hid hlb
  clear hlb hb
  gi_wp2_with fail
  refine ⟨trivial, rfl, (callsIn_wide.2 (of_any s _ (by omega) HO.out)).mono ?_⟩
  rintro e w2 ⟨rfl, hb2⟩
  gi_wp2_with fail
  refine ⟨trivial, rfl, (callsIn_wide.2 (kinds_any (fun j => cn s.data.toList j) (fun _ => by simp) _)).mono ?_⟩
  rintro e w3 ⟨rfl, hb3⟩
  have hkn : mins (four fun j => (cn s.data.toList j : Int)) = (kindsN s.data.toList : Int) := by simp [mins, four, kindsN]; omega
  rw [hkn]
  have hk4 : kindsN s.data.toList ≤ 4 := by simp [kindsN]; omega
  have hb13 : Below w1.heap.size w1 w3 := hb2.trans (hb3.mono hb2.size)
  have HL3 := hid (HLB.out.below hb13 hsz1)
  have hb03 : Below w.heap.size w w3 := hbw.trans (hb13.mono hbw.size)
  have hsz3 : w.heap.size + 1 + 1 < w3.heap.size := Nat.lt_of_lt_of_le hsz1 hb13.size
  obtain ⟨K, hK⟩ : ∃ K, K = kindsN s.data.toList := ⟨_, rfl⟩
  rw [← hK] at hk4 ⊢
  have HK := hid hK
  clear hb2 hb3 hkn HLB q0 q1 q2 f1 f2 hK hbw hsz1 hb13
  gi_wp2_with fail
  refine wpIn_loop_ghost_k (fun m a W => ∃ (k : Nat) (ds : List Deferred) (u4 u14 u15 u16 u17 u18 u19 u25 : Value), k ≤ K + 1 ∧ m + k = K + 1 ∧ a = { tmps := #[.string s, .pointer (some { block := w.heap.size, off := 0 }), .pointer (some { block := w.heap.size + 1, off := 0 }), .pointer (some { block := w.heap.size + 1 + 1, off := 0 }), u4, undef, .string s, .bool true, .bool false, .string s, Value.agg
          #[Value.int IntKind.i64 ↑(cn s.data.toList 0), Value.int IntKind.i64 ↑(cn s.data.toList 1),
            Value.int IntKind.i64 ↑(cn s.data.toList 2), Value.int IntKind.i64 ↑(cn s.data.toList 3)], .int .i64 K, .int .i64 ((K : Int) + 1), .int .i64 k, u14, u15, u16, u17, u18, u19, undef, undef, undef, undef, undef, u25], defers := ds } ∧ Hid (MB w.heap.size W.heap.size (w.heap.size + 1 + 1 + 1) ds s (.slice none 0 0) 0 w W ∧ tryN g (List.range (K + 1)) = tryN g ((List.range (K + 1)).drop k)))
    (K + 1) ?_ ?_
  · exact ⟨0, [], _, _, _, _, _, _, _, _, by omega, rfl, rfl, hid ⟨⟨HL3.out, MarksOk.nil _ _, by simp, by omega, by omega, hb03⟩, rfl⟩⟩
  rintro m _ W ⟨k, ds, u4, u14, u15, u16, u17, u18, u19, u25, hkK, hm, rfl, HR⟩ J K2 hJ hK2
  obtain ⟨q0, q1, q2, f1, f2⟩ := HR.out.1.lb.facts
  have hWw : w.heap.size + 1 + 1 < W.heap.size := HR.out.1.nl
  have t13 : (decide ((k : Int) < (K : Int) + 1)) = decide (k < K + 1) := by rw [decide_eq_decide]; omega
  by_cases hk : k < K + 1
  · have t1 : decide (k < K + 1) = true := by simpa using hk
    gi_wp2_with fail
    refine ⟨trivial, rfl, (callsIn_wide.2 (lists_any (k : Int) 1 (s.size : Int) W)).mono ?_⟩
    rintro e W1 ⟨rfl, hW1⟩
    have hB1 : Blk W1 W.heap.size #[.int .i64 k] 3 := by rw [← hW1]; exact ((Blk.new W _ _).alloc _).alloc _
    have hB2 : Blk W1 (W.heap.size + 1) #[.int .i64 1] 3 := by rw [← hW1]; exact (Blk.mk' (by simp) rfl : Blk _ _ _ _).alloc _
    have hB3 : Blk W1 (W.heap.size + 1 + 1) #[.int .i64 s.size] 3 := by rw [← hW1]; exact Blk.mk' (by simp) rfl
    have hsz : W1.heap.size = W.heap.size + 3 := by rw [← hW1]; simp
    have hb1 : Below W.heap.size W W1 := by rw [← hW1]; exact (((Below.refl _ W).alloc (Nat.le_refl _) _).alloc (by simp) _).alloc (by simp; omega) _
    have H1 := hid hB1
    have H2 := hid hB2
    have H3 := hid hB3
    have HSZ := hid hsz
    have HMB := hid (HR.out.1.step hb1)
    have HJ := hid hJ
    clear hW1 q0 q1 q2 f1 f2 hJ HL3 hb03 hB1 hB2 hB3 hsz hb1
    gi_wp2_with fail
    refine wp_range (gf := 82) (lb := #[.pointer (some ⟨W.heap.size, 0, none⟩), .pointer (some ⟨W.heap.size + 1 + 1, 0, none⟩), .pointer (some ⟨W.heap.size + 1, 0, none⟩)]) rfl Tryz.call82 (ArgL (w.heap.size + 1 + 1 + 1)) (nxt s.size k 1 []) (fun b => b = w.heap.size + 1 ∨ b = w.heap.size + 1 + 1) ?_ (argL_put _) ?_
      (LeI (fairB s.data.toList) w.heap.size (W1.heap.size + 1) (w.heap.size + 1 + 1 + 1) ds s w) (LeX (fairB s.data.toList) w.heap.size (W1.heap.size + 1) (w.heap.size + 1 + 1 + 1) ds s w (nxt s.size k 1 [])) ?_ ?_ ?_
      (fun v => { tmps := #[.string s, .pointer (some { block := w.heap.size, off := 0 }), .pointer (some { block := w.heap.size + 1, off := 0 }), .pointer (some { block := w.heap.size + 1 + 1, off := 0 }), .int .i64 k, v, .string s, .bool true, .bool false, .string s, Value.agg
          #[Value.int IntKind.i64 ↑(cn s.data.toList 0), Value.int IntKind.i64 ↑(cn s.data.toList 1),
            Value.int IntKind.i64 ↑(cn s.data.toList 2), Value.int IntKind.i64 ↑(cn s.data.toList 3)], .int .i64 K, .int .i64 ((K : Int) + 1), .int .i64 k, .bool true, .int .i64 k, .int .i64 k, .string s, .int .i64 s.size, .func (.func 82) #[] #[.pointer (some { block := W.heap.size, off := 0 }), .pointer (some { block := W.heap.size + 1 + 1, off := 0 }), .pointer (some { block := W.heap.size + 1, off := 0 })], v, undef, undef, undef, undef, u25], defers := [] }) ?_ ?_ ?_ ?_
    · rintro b (rfl | rfl) <;> (rw [HSZ.out]; omega)
    · intro W2 hW2 hb2
      refine lists_iter (w.heap.size + 1 + 1 + 1) k 1 s.size _ _ _ _ W2 (by omega) (by omega) (by omega) (by have := hb2.size; rw [HSZ.out] at this; omega) ⟨H1.out.below hb2 (by rw [HSZ.out]; omega), ?_⟩ ⟨H3.out.below hb2 (by rw [HSZ.out]; omega), ?_⟩ (H2.out.below hb2 (by rw [HSZ.out]; omega))
      · rw [HSZ.out]; omega
      · rw [HSZ.out]; omega
    · exact LeI_firm _ _ _ _ _ _ _ (by rw [HSZ.out]; omega)
    · exact LeX_firm _ _ _ _ _ _ _ _ (by rw [HSZ.out]; omega)
    · intro W2 hb2
      exact ⟨(HMB.out.step hb2).up (by rw [HSZ.out]; omega), .inl rfl, .inr rfl, by simp⟩
    · intro v W2 K3 hK
      gi_wp2
      exact hK
    · rintro pre x post v C W2 hx ⟨h1, h2, h3, h4⟩ ⟨a, cp, rfl, hi, hn, hcp, hown⟩ hsz2 hC ⟨r, hr⟩
      have hmem : x ∈ nxt s.size k 1 [] := by rw [hx]; simp
      obtain ⟨hl1, hl2⟩ : x.length = k ∧ cutsB s.size 0 x = true := by
        by_cases h0 : 1 ≤ s.size
        · exact nxt_ok s.size k 1 x hmem h0
        · exact nxt_small s.size k 1 x hmem (by omega)
      obtain ⟨q0, q1, q2, f1, f2⟩ := h1.lb.facts
      have hlt := h1.lb.e.lt
      have HOWN := hid hown
      have HI := hid hi
      have HC := hid hC
      have HX := hid hx
      have HR2 := hid hr
      have HM := hid h1
      have HP4 := hid h4
      have HMEM := hid hmem
      have hl4 : x.length ≤ 5 := by omega
      obtain ⟨xl, hxl⟩ : ∃ xl, xl = x.length := ⟨_, rfl⟩
      have HXL := hid hxl
      rw [← hxl]
      clear hown hi hC hx hr h1 h4 hmem hl1 hxl q1 q2 f1 f2
      gi_wp2_with fail
      refine ⟨trivial, rfl, CallsIn.inRound _ ((callsIn_wide.2 (by rw [HXL.out]; exact isFair_any s a cp x W2 (by omega) HI.out hn hcp (by omega) hl2 HO.out)).mono ?_)⟩
      rintro e W3 ⟨rfl, hb3⟩
      obtain ⟨b, hb⟩ : ∃ b, b = fairB s.data.toList x := ⟨_, rfl⟩
      rw [← hb]
      have HB := hid hb
      have HM3 := hid (HM.out.step hb3)
      have HK3 := hid (KeepsX.of_below (M := C) hb3)
      have hi3 := hid (HI.out.below hb3 (Nat.le_refl _))
      have HOWN3 := hid (HOWN.out.heap fun g _ _ hg _ => hb3.block g hg)
      have hl3 : ∃ r, W3.heap[W1.heap.size + 1]? = some (Obj.loop r) := ⟨r, (hb3.block _ (lt_of_block HR2.out)).trans HR2.out⟩
      have HL3' := hid hl3
      obtain ⟨q0, q1, q2, f1, f2⟩ := HM3.out.lb.facts
      clear hb hb3 hl3
      cases b
      · gi_wp2_with fail
        refine ⟨C, Grew.refl HK3.out (fun k hk => (HC.out k hk).1), HM3.out, h2, h3, ?_⟩
        intro y hy
        rcases List.mem_append.1 hy with hy | hy
        · exact HP4.out y hy
        · cases List.mem_singleton.1 hy; exact HB.out.symm
      · gi_wp2_with fail
        have hk4 : KeepsX C W2 ((W3.setCell ⟨w.heap.size + 1, 0, none⟩ (.slice a xl cp)).setCell ⟨w.heap.size + 1 + 1, 0, none⟩ (.int .i64 0)) := (HK3.out.trans (KeepsX.setCell _ h2)).trans (KeepsX.setCell _ h3)
        refine ⟨C, Grew.refl hk4 (fun k hk => (HC.out k hk).1), rfl, a, cp, x, ?_, ?_, hn, hcp, ?_, ?_⟩
        · rw [← HXL.out]; exact HM3.out.put (Nat.le_refl _) _ _
        · obtain ⟨r, hr⟩ := HL3'.out
          refine ValsX.of (r := r) (HM3.out.lb.ints hi3.out _) ?_
          have := HM3.out.nl
          exact (Below.heap_setCell _ _ _ _ (by simp; omega)).trans ((Below.heap_setCell _ _ _ _ (by simp; omega)).trans hr)
        · rw [HX.out, List.find?_append, List.find?_eq_none.2 (fun y hy => by simp [HP4.out y hy])]
          simp [← HB.out]
        · obtain ⟨r, hr⟩ := HL3'.out
          have := HM3.out.nl
          refine OwnX.of (r := r) (HOWN3.out.heap fun g _ hg _ _ => ?_) ?_
          · exact (Below.heap_setCell _ _ _ _ (by simp; omega)).trans (Below.heap_setCell _ _ _ _ (by simp; omega))
          · exact (Below.heap_setCell _ _ _ _ (by simp; omega)).trans ((Below.heap_setCell _ _ _ _ (by simp; omega)).trans hr)
    · rintro C W2 hsz2 ⟨h1, h2, h3, h4⟩ hD
      have HM := hid h1
      have HD := hid hD
      have H4 := hid h4
      clear h1 h2 h3 hD h4
      gi_wp2_with fail
      have hfn : g k = none := by
        rw [HG.out, firstB, List.find?_eq_none]
        intro y hy
        rw [bytes_len] at hy
        simpa [testB] using H4.out y hy
      have hD1 : w.heap.size + 1 + 1 + 1 ≤ W1.heap.size := by rw [HSZ.out]; omega
      have hD2 : ∀ k, { target := Target.collected k, args := #[] } ∈ ds → k ≠ W1.heap.size := fun D hD => by
        have := HMB.out.lt D hD
        rw [HSZ.out]; omega
      refine Handed.intro (m - 1) (by omega) (HJ.out _ _ _ ⟨k + 1, _, _, _, _, _, _, _, _, _, by omega, by omega, rfl, hid ⟨HM.out.cons hD1 HD.out hD2 (by omega) (by omega), ?_⟩⟩)
      rw [HR.out.2, tryN_range _ _ _ hk, hfn]; rfl
    · rintro c pre x post C W2 hsz2 hx ⟨rfl, a, cp, y, hm, hv, hn, hcp, hf, hox⟩ hD
      have HM := hid hm
      have HD := hid hD
      have HV := hid hv
      have HX := hid hx
      have HF := hid hf
      have HOX := hid hox
      clear hm hv hD hx hf hox
      gi_wp2_with fail
      have hgk : R = y := by
        rw [HRR.out, ← HK.out, HR.out.2, tryN_range _ _ _ hk, HG.out, firstB, bytes_len]
        exact or_some HF.out
      have hD1 : w.heap.size + 1 + 1 + 1 ≤ W1.heap.size := by rw [HSZ.out]; omega
      have hD2 : ∀ k, { target := Target.collected k, args := #[] } ∈ ds → k ≠ W1.heap.size := fun D hD => by
        have := HMB.out.lt D hD
        rw [HSZ.out]; omega
      subst hgk
      exact (HM.out.cons hD1 HD.out hD2 (Nat.le_refl _) (by omega)).leave rfl (by omega) (fun w' r1 r2 => by simp [results, Tryz.results19, go_sem, r1, r2]) HV.out.1 hn hcp HOX.out.1
  · have t1 : decide (k < K + 1) = false := by simpa using hk
    have h0 : R = [] := by rw [HRR.out, ← HK.out, HR.out.2, tryN_end _ _ _ hk]; rfl
    have HP := hid (HR.out.1.put (Nat.le_refl _) (.slice none 0 0) 0)
    gi_wp2_with fail
    subst h0
    refine HP.out.leave (x := []) rfl (by simp [World.setCell]; omega) (fun w' r1 r2 => by simp [results, Tryz.results19, go_sem, r1, r2]) (Ints.nil _ _) (fun _ => rfl) (Nat.le_refl _) (OwnR.nil _ _)
theorem least_even (s : ByteArray) (w : World) (hs : s.size ≤ 900) (h : evenChainB s.data.toList = true) :
    Calls Tryz.prog 19 #[.string s] w (RetCuts ((tryN (firstB false s.data.toList) (List.range (kindsN s.data.toList + 1))).getD []) 0 w) := (least_evenO s w hs h).mono fun _ _ h => h.ret
end Go.Proofs.YtkmpdcckgibkhaaGreat
/-
  Walks: Least, Check.
-/
namespace Go.Proofs.YtkmpdcckgibkhaaGreat
open Go.RowKit

theorem cutsLoop_some (n f : Int) : ∀ (l : List Int) (p : Int), f ≤ p → cutsLoop n f (some p) l = cutsB n (p + 1) l := by
  intro l
  induction l with
  | nil => intro p _; rfl
  | cons c r ih =>
    intro p hp
    simp only [cutsLoop, cutsB]
    by_cases h : p + 1 ≤ c
    · rw [ih c (by omega)]
      have h1 : f ≤ c := by omega
      have h2 : p < c := by omega
      simp [h, h1, h2]
    · have h2 : ¬ p < c := by omega
      simp [h, h2]
theorem cutsLoop_none (n f : Int) (l : List Int) : cutsLoop n f none l = cutsB n f l := by
  cases l with
  | nil => rfl
  | cons c r =>
    simp only [cutsLoop, cutsB]
    by_cases h : f ≤ c
    · rw [cutsLoop_some n f r c h]
    · simp [h]
theorem cutsB_len (n : Int) : ∀ (l : List Int) (f : Int), cutsB n f l = true → (l.length : Int) ≤ max 0 (n - f) := by
  intro l
  induction l with
  | nil => intro f _; simp; omega
  | cons c r ih =>
    intro f h
    simp only [cutsB, Bool.and_eq_true, decide_eq_true_eq] at h
    have := ih _ h.2
    simp only [List.length_cons]; omega

/-- The cuts and the error of Least. -/
def leastC (l : List UInt8) : List Int := if evenChainB l then (tryN (firstB false l) (List.range (kindsN l + 1))).getD [] else []
def leastE (l : List UInt8) : Int := if evenChainB l then 0 else 2
theorem least_any (s : ByteArray) (w : World) (hs : s.size ≤ 900) : Calls Tryz.prog 19 #[.string s] w (RetCuts (leastC s.data.toList) (leastE s.data.toList) w) := by
  by_cases h : evenChainB s.data.toList = true
  · rw [leastC, leastE, if_pos h, if_pos h]; exact least_even s w hs h
  · rw [leastC, leastE, if_neg h, if_neg h]; exact (least_odd s w (by omega) (by simpa using h)).mono fun _ _ h => h.ret
theorem least_anyO (s : ByteArray) (w : World) (hs : s.size ≤ 900) : Calls Tryz.prog 19 #[.string s] w (RetCutsO (leastC s.data.toList) (leastE s.data.toList) w) := by
  by_cases h : evenChainB s.data.toList = true
  · rw [leastC, leastE, if_pos h, if_pos h]; exact least_evenO s w hs h
  · rw [leastC, leastE, if_neg h, if_neg h]; exact least_odd s w (by omega) (by simpa using h)
/-- What Check and CheckRing return. -/
def checkE (l : List UInt8) (cuts : List Int) : Int := if evenChainB l && cutsB l.length 1 cuts then (if fairB l cuts then 0 else 10) else 2
set_option maxHeartbeats 1000000 in
theorem check_any (s : ByteArray) (a : Option Addr) (c : Nat) (l : List Int) (w : World) (hs : s.size ≤ 900) (ha : Ints w a l) (hn : a = none → c = 0) (hlc : l.length ≤ c) (hl : l.length ≤ 900) :
    Calls Tryz.prog 17 #[.string s, .slice a l.length c] w fun e w' => e = .returned (.int .i64 (checkE s.data.toList l)) ∧ Below w.heap.size w w' := by
  obtain ⟨b1, h1⟩ : ∃ b, b = evenChainB s.data.toList := ⟨_, rfl⟩
  obtain ⟨b2, h2⟩ : ∃ b, b = cutsB s.data.toList.length 1 l := ⟨_, rfl⟩
  obtain ⟨b3, h3⟩ : ∃ b, b = fairB s.data.toList l := ⟨_, rfl⟩
  have hR : checkE s.data.toList l = if b1 && b2 then (if b3 then 0 else 10) else 2 := by rw [checkE, ← h1, ← h2, ← h3]
  rw [hR]
  clear hR
  have H1 := hid h1
  have H2 := hid h2
  have H3 := hid h3
  have HA := hid ha
  clear h1 h2 h3 ha
  go_enter Tryz.func17, Tryz.ntmps17
  go_wp2_with fail
  refine (isEven_any s _ (by omega)).mono ?_
  rintro e w1 ⟨rfl, hb⟩
  rw [← H1.out]
  have HA1 := hid (HA.out.below hb (Nat.le_refl _))
  cases b1
  · go_wp2
    go_ret
    exact ⟨rfl, hb⟩
  · go_wp2_with fail
    refine (areCuts_any s a c l 1 w1 (by omega) HA1.out (by omega)).mono ?_
    rintro e w2 ⟨rfl, rfl⟩
    rw [cutsLoop_none, ← bytes_len, ← H2.out]
    cases b2
    · go_wp2
      go_ret
      exact ⟨rfl, hb⟩
    · have hc0 : cutsB s.size 0 l = true := cutsB_weak _ _ _ _ H2.out.symm (by omega)
      have hok : s.data.toList.all okb = true := by
        have := H1.out
        simp [evenChainB, chainB] at this; simpa using this.1.1
      have HK := hid hok
      have HC := hid hc0
      clear hok hc0
      go_wp2_with fail
      refine (isFair_any s a c l w1 (by omega) HA1.out hn hlc hl HC.out HK.out).mono ?_
      rintro e w2 ⟨rfl, hb2⟩
      rw [← H3.out]
      have hbb := hb.trans (hb2.mono hb.size)
      cases b3
      · go_wp2
        go_ret
        exact ⟨rfl, hbb⟩
      · go_wp2
        go_ret
        exact ⟨rfl, hbb⟩

end Go.Proofs.YtkmpdcckgibkhaaGreat
