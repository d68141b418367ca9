/-
  A law for a range over a function whose iterator makes memory and hands over what lies in it. No program.
-/
import Derived.RangeFuncKeeps
import Derived.RangeFuncLeaves
import Derived.Test.YtkmpdcckgibkhaaGreatUA
namespace Go.Proofs.YtkmpdcckgibkhaaGreat
open Go.RowKit

/-- The blocks outside M lie as they lay. -/
structure KeepsX (M : Nat → Prop) (A B : World) : Prop where
  size : A.heap.size ≤ B.heap.size
  same : ∀ k, k < A.heap.size → ¬ M k → B.heap[k]? = A.heap[k]?

theorem KeepsX.refl (M : Nat → Prop) (A : World) : KeepsX M A A := ⟨Nat.le_refl _, fun _ _ _ => rfl⟩
theorem KeepsX.trans {M : Nat → Prop} {A B C : World} (h : KeepsX M A B) (k : KeepsX M B C) : KeepsX M A C :=
  ⟨Nat.le_trans h.size k.size, fun i hi hm => (k.same i (Nat.lt_of_lt_of_le hi h.size) hm).trans (h.same i hi hm)⟩
theorem KeepsX.mono {M M' : Nat → Prop} {A B : World} (h : KeepsX M A B) (hm : ∀ k, M k → M' k) : KeepsX M' A B :=
  ⟨h.size, fun k hk hn => h.same k hk (fun x => hn (hm k x))⟩
theorem KeepsX.of_below {M : Nat → Prop} {A B : World} (h : Below A.heap.size A B) : KeepsX M A B :=
  ⟨h.size, fun k hk _ => h.block k hk⟩
theorem KeepsX.putObj {M : Nat → Prop} {A : World} {r : Nat} (o : Obj) (h : M r) : KeepsX M A (A.putObj r o) :=
  ⟨by simp, fun k _ hm => World.putObj_heap_other (fun e => hm (e ▸ h))⟩
theorem KeepsX.setCell {M : Nat → Prop} {A : World} {p : Addr} (v : Value) (h : M p.block) : KeepsX M A (A.setCell p v) :=
  ⟨by simp [World.setCell], fun k _ hm => Below.heap_setCell _ _ _ _ (fun e => hm (e ▸ h))⟩

/-- A word abides whatever is laid anew. -/
def Firm {β : Type} (J : β → (Nat → Prop) → World → Prop) : Prop := ∀ s C A B, J s C A → Below A.heap.size A B → J s C B

/-- The caller's blocks: those that it had, and blocks that it has laid since. -/
structure Grew (C C' : Nat → Prop) (A B : World) : Prop where
  old : ∀ k, C' k → C k ∨ A.heap.size ≤ k
  lt : ∀ k, C' k → k < B.heap.size
  keep : KeepsX C A B

/-- An iterator visits xs in order: at each call of yield the value handed over stands in 'Arg' to the element; a round writes blocks of the caller's alone ('C', and what it lays itself). -/
def Iter {β : Type} (P : Program) (g : Nat) (lb : Array Value) (Arg : β → Value → World → Prop) (xs : List β) (C₀ : Nat → Prop) (W : World) : Prop :=
  ∀ (l : Nat) (J Jx : List β → (Nat → Prop) → World → Prop), Firm J → Firm Jx →
    (∀ pre x post v C A, xs = pre ++ x :: post → J pre C A → (∀ k, C k → k < A.heap.size) → Arg x v A → YieldAt Fence.wide 0 P l #[v] A fun e B => ∃ C', Grew C C' A B ∧
      ((e = .returned (.bool true) ∧ J (pre ++ [x]) C' B) ∨ (e = .returned (.bool false) ∧ Jx (pre ++ [x]) C' B))) →
    (∀ k, C₀ k → k < W.heap.size) → J [] C₀ W →
    Calls P g (#[.func (.yield l) #[] #[]] ++ lb) W fun e B => (∃ v, e = .returned v) ∧ ∃ C', (J xs C' B ∨ ∃ pre x post, xs = pre ++ x :: post ∧ Jx (pre ++ [x]) C' B)

/-- How the body of a round may be left. -/
def roundX {β : Type} (C : Nat → Prop) (I : List β → (Nat → Prop) → World → Prop) (Ix : Code → List β → (Nat → Prop) → World → Prop) (s : List β) (W : World) : Exit → Act → World → Prop
  | .normal, _, W' => ∃ C', Grew C C' W W' ∧ I s C' W'
  | .ret, _, W' => ∃ C', Grew C C' W W' ∧ Ix .ret s C' W'
  | .exit id, _, W' => ∃ C', Grew C C' W W' ∧ Ix (.exit id) s C' W'
  | .goto t, _, W' => ∃ C', Grew C C' W W' ∧ Ix (.goto t) s C' W'
  | .panic _, _, _ => False
  | .outgrown, _, _ => False

/-- What the caller says of its own memory abides what is laid anew, and the turns of the loop's record. -/
def FirmX {β : Type} (l : Nat) (J : β → (Nat → Prop) → World → Prop) : Prop :=
  ∀ s C A B, J s C A → A.heap.size ≤ B.heap.size → B.os = A.os → B.tape = A.tape → B.output = A.output → (∀ k, k < A.heap.size → k ≠ l → B.heap[k]? = A.heap[k]?) → J s C B

/-- **The statement.** -/
theorem wp_range {β : Type} {P : Program} {g : Operand} {p : Tmp} {assign body : Code} {Q : Exit → Act → World → Prop} {a : Act} {w : World}
    {gf : Nat} {lb : Array Value} (hg : a.eval g = .func (.func gf) #[] lb) (eg : ∀ args w, (callFunc gf args).run P w = .ok (.enter gf args) w)
    (Arg : β → Value → World → Prop) (xs : List β) (C₀ : Nat → Prop)
    (hC : ∀ k, C₀ k → k < w.heap.size)
    (hArg : ∀ x v A l r o, Arg x v A → A.heap[l]? = some (.loop r) → Arg x v (A.putObj l (.loop o)))
    (hseq : ∀ W, W.heap.size = w.heap.size + 2 → Below w.heap.size w W → Iter P gf lb Arg xs (fun k => k = w.heap.size + 1 ∨ C₀ k) W)
    (I : List β → (Nat → Prop) → World → Prop) (Ix : Code → List β → (Nat → Prop) → World → Prop) (hI : FirmX (w.heap.size + 1) I) (hIx : ∀ c, FirmX (w.heap.size + 1) (Ix c))
    (h0 : ∀ W, Below w.heap.size w W → I [] C₀ W) (a₁ : Value → Act)
    (hassign : ∀ (v : Value) (W : World) (K : Act → World → Prop), K (a₁ v) W →
      assign.wpIn (Fence.wide.inRound (w.heap.size + 1)) 0 P (Exit.then K (fun _ _ _ => False)) { tmps := a.tmps.setIfInBounds p v, defers := [] } W)
    (hbody : ∀ (pre : List β) (x : β) (post : List β) (v : Value) (C : Nat → Prop) (W : World), xs = pre ++ x :: post → I pre C W → Arg x v W → w.heap.size + 2 ≤ W.heap.size → (∀ k, C k → k < W.heap.size ∧ k ≠ w.heap.size ∧ k ≠ w.heap.size + 1) → (∃ r, W.heap[w.heap.size + 1]? = some (Obj.loop r)) →
      body.wpIn (Fence.wide.inRound (w.heap.size + 1)) 0 P (roundX C I Ix (pre ++ [x]) W) (a₁ v) W)
    (hdone : ∀ C W, w.heap.size + 2 ≤ W.heap.size → I xs C W → W.heap[w.heap.size]? = some (.deferred (some [])) → Q .normal { a with defers := { target := .collected w.heap.size, args := #[] } :: a.defers } W)
    (hstop : ∀ c pre x post C W, w.heap.size + 2 ≤ W.heap.size → xs = pre ++ x :: post → Ix c (pre ++ [x]) C W → W.heap[w.heap.size]? = some (.deferred (some [])) → c.wpIn Fence.wide 0 P Q { a with defers := { target := .collected w.heap.size, args := #[] } :: a.defers } W) :
    (Code.rangeFunc g #[p] assign body).wpIn Fence.wide 0 P Q a w := by
  refine wpIn_rangeFunc ?_
  intro fn hfn
  obtain ⟨rec, hrec⟩ : ∃ rec : LoopState → Option Code → Loop, rec = fun st pe => { state := st, pending := pe, fn, tmps := a.tmps, params := #[p], assign, body, defers := w.heap.size } := ⟨_, rfl⟩
  obtain ⟨W1, hW1⟩ : ∃ W1, (w.alloc (.deferred (some []))).alloc (.loop (rec .ready none)) = W1 := ⟨_, rfl⟩
  have hL1 : W1.heap[w.heap.size + 1]? = some (.loop (rec .ready none)) := by
    rw [← hW1]; have := World.alloc_heap_new (w.alloc (.deferred (some []))) (.loop (rec .ready none)); rwa [World.size_alloc] at this
  have hK1 : W1.heap[w.heap.size]? = some (.deferred (some [])) := by
    rw [← hW1]; exact (Below.heap_alloc _ _ _ (by simp)).trans (World.alloc_heap_new w _)
  have hb1 : Below w.heap.size w W1 := by
    rw [← hW1]; exact ((Below.refl _ w).alloc (Nat.le_refl _) _).alloc (by simp) _
  have hs1 : W1.heap.size = w.heap.size + 2 := by rw [← hW1]; simp
  refine ⟨w.heap.size + 1, [{ target := .collected w.heap.size, args := #[] }], W1, { target := .fn (.func gf) lb, args := #[.func (.yield (w.heap.size + 1)) #[] #[]] }, W1, gf,
    #[.func (.yield (w.heap.size + 1)) #[] #[]] ++ lb, W1, ?_, ?_, ?_, ?_, (fun h => by simp [Fence.wide] at h), ?_⟩
  · rw [← hW1, hrec]; exact run_enterLoop_outer _ _ _ _ _
  · simp only [resolve, hg]
    simp [go_sem]
  · intro f' hf'; trivial
  · simp [invoke, go_sem, eg]
  · refine callsIn_wide.2 ((hseq W1 hs1 hb1 (w.heap.size + 1)
      (fun pre C W => ∃ Cc : Nat → Prop, (∀ k, C k ↔ (k = w.heap.size + 1 ∨ Cc k)) ∧ (∀ k, Cc k → k < w.heap.size ∨ w.heap.size + 2 ≤ k) ∧ I pre Cc W ∧ W.heap[w.heap.size + 1]? = some (.loop (rec .ready none)) ∧ W.heap[w.heap.size]? = some (.deferred (some [])) ∧ w.heap.size + 2 ≤ W.heap.size)
      (fun pre C W => ∃ (Cc : Nat → Prop) (c : Code), Ix c pre Cc W ∧ W.heap[w.heap.size + 1]? = some (.loop (rec .done (some c))) ∧ W.heap[w.heap.size]? = some (.deferred (some [])) ∧ w.heap.size + 2 ≤ W.heap.size)
      ?_ ?_ ?_ ?_ ⟨C₀, fun k => Iff.rfl, fun k hk => .inl (hC k hk), h0 _ hb1, hL1, hK1, by omega⟩).mono ?_)
    · rintro s C A B ⟨Cc, g1, g2, h1, h2, h3, h4⟩ hb
      exact ⟨Cc, g1, g2, hI s Cc A B h1 hb.size hb.os hb.tape hb.output (fun k hk _ => hb.block k hk), (hb.block _ (by omega)).trans h2, (hb.block _ (by omega)).trans h3, Nat.le_trans h4 hb.size⟩
    · rintro s C A B ⟨Cc, c, h1, h2, h3, h4⟩ hb
      exact ⟨Cc, c, hIx c s Cc A B h1 hb.size hb.os hb.tape hb.output (fun k hk _ => hb.block k hk), (hb.block _ (by omega)).trans h2, (hb.block _ (by omega)).trans h3, Nat.le_trans h4 hb.size⟩
    · -- one round
      rintro pre x post v C A hx ⟨Cc, g1, g2, hi, hl, hk, hsz⟩ hCA harg
      have hlt : w.heap.size + 1 < A.heap.size := by omega
      have hy : (Instr.yield (w.heap.size + 1) #[v]).run P A = .ok (.round (w.heap.size + 1) fn (a.tmps.setIfInBounds p v) assign body) A := by
        have h := run_yield (P := P) (args := #[v]) hl (by rw [hrec]; rfl)
        rw [hrec] at h
        simpa using h
      refine ⟨fn, _, assign, body, hy, roundIn_of_wpIn hfn ?_⟩
      refine hassign v A _ ?_
      refine ⟨_, run_beginRound hl (by rw [hrec]), ?_⟩
      have hl2 : (A.putObj (w.heap.size + 1) (.loop { rec .ready none with state := .busy })).heap[w.heap.size + 1]? = some (.loop { rec .ready none with state := .busy }) := World.putObj_heap_same hlt
      have hk2 : (A.putObj (w.heap.size + 1) (.loop { rec .ready none with state := .busy })).heap[w.heap.size]? = some (.deferred (some [])) := (World.putObj_heap_other (by omega)).trans hk
      have hput : ∀ (c : Code) (s : List β) (D : Nat → Prop) (X : World) (o : Obj), (I s D X → I s D (X.putObj (w.heap.size + 1) o)) ∧ (Ix c s D X → Ix c s D (X.putObj (w.heap.size + 1) o)) := fun c s D X o =>
        ⟨fun h => hI s D X _ h (by simp) rfl rfl rfl (fun k _ hne => World.putObj_heap_other hne), fun h => hIx c s D X _ h (by simp) rfl rfl rfl (fun k _ hne => World.putObj_heap_other hne)⟩
      have hk0 : KeepsX C A (A.putObj (w.heap.size + 1) (.loop { rec .ready none with state := .busy })) := KeepsX.putObj _ ((g1 _).2 (.inl rfl))
      have hCc : ∀ k, Cc k → k < (A.putObj (w.heap.size + 1) (.loop { rec .ready none with state := .busy })).heap.size ∧ k ≠ w.heap.size ∧ k ≠ w.heap.size + 1 := fun k hk => by
        have h1 := hCA k ((g1 k).2 (.inr hk))
        have h2 := g2 k hk
        refine ⟨by simpa using h1, ?_, ?_⟩ <;> omega
      refine wpIn_mono (hbody pre x post v Cc _ hx ((hput .skip _ _ _ _).1 hi) (hArg _ _ _ _ _ _ harg hl) (by simpa using hsz) hCc ⟨_, hl2⟩) ?_
      have fin : ∀ (jump : Option Code) (W3 : World) (C' : Nat → Prop), Grew Cc C' (A.putObj (w.heap.size + 1) (.loop { rec .ready none with state := .busy })) W3 →
          (Instr.endRound (w.heap.size + 1) jump).run P W3 = .ok (.bool jump.isNone) (W3.putObj (w.heap.size + 1) (.loop (rec (if jump.isNone then .ready else .done) jump))) ∧
          (W3.putObj (w.heap.size + 1) (.loop (rec (if jump.isNone then .ready else .done) jump))).heap[w.heap.size + 1]? = some (.loop (rec (if jump.isNone then .ready else .done) jump)) ∧
          (W3.putObj (w.heap.size + 1) (.loop (rec (if jump.isNone then .ready else .done) jump))).heap[w.heap.size]? = some (.deferred (some [])) ∧
          w.heap.size + 2 ≤ (W3.putObj (w.heap.size + 1) (.loop (rec (if jump.isNone then .ready else .done) jump))).heap.size ∧
          (∀ k, C' k → k < w.heap.size ∨ w.heap.size + 2 ≤ k) ∧
          Grew C (fun k => k = w.heap.size + 1 ∨ C' k) A (W3.putObj (w.heap.size + 1) (.loop (rec (if jump.isNone then .ready else .done) jump))) := fun jump W3 C' hg3 => by
        have hk3 := hg3.keep
        have hs3 := hk3.size
        simp at hs3
        have hl3 := (hk3.same (w.heap.size + 1) (by simpa using hlt) (fun h => (hCc _ h).2.2 rfl)).trans hl2
        have hd3 := (hk3.same w.heap.size (by simp; omega) (fun h => (hCc _ h).2.1 rfl)).trans hk2
        have := run_endRound (P := P) jump hl3
        rw [hrec] at this ⊢
        refine ⟨this, World.putObj_heap_same (by omega), (World.putObj_heap_other (by omega)).trans hd3, by simp; omega, ?_, ?_, ?_, ?_⟩
        · intro k hk
          rcases hg3.old k hk with h | h
          · exact g2 k h
          · simp at h; omega
        · rintro k (rfl | hk)
          · exact .inl ((g1 _).2 (.inl rfl))
          · rcases hg3.old k hk with h | h
            · exact .inl ((g1 _).2 (.inr h))
            · simp at h; exact .inr h
        · rintro k (rfl | hk)
          · simp; omega
          · simpa using hg3.lt k hk
        · rw [hrec] at hk0 hk3
          exact (hk0.trans (hk3.mono fun k h => (g1 k).2 (.inr h))).trans (KeepsX.putObj _ ((g1 _).2 (.inl rfl)))
      rintro e a3 W3 hp
      cases e with
      | normal =>
        obtain ⟨C', hk3, hi3⟩ := hp
        obtain ⟨hr, hl4, hk4, hs4, hc4, hk5⟩ := fin none W3 C' hk3
        exact ⟨_, _, hr, _, hk5, .inl ⟨rfl, C', fun k => Iff.rfl, hc4, (hput .skip _ _ _ _).1 hi3, hl4, hk4, hs4⟩⟩
      | ret =>
        obtain ⟨C', hk3, hi3⟩ := hp
        obtain ⟨hr, hl4, hk4, hs4, hc4, hk5⟩ := fin (some .ret) W3 C' hk3
        exact ⟨_, _, hr, _, hk5, .inr ⟨rfl, C', .ret, (hput .ret _ _ _ _).2 hi3, hl4, hk4, hs4⟩⟩
      | exit id =>
        obtain ⟨C', hk3, hi3⟩ := hp
        obtain ⟨hr, hl4, hk4, hs4, hc4, hk5⟩ := fin (some (.exit id)) W3 C' hk3
        exact ⟨_, _, hr, _, hk5, .inr ⟨rfl, C', .exit id, (hput (.exit id) _ _ _ _).2 hi3, hl4, hk4, hs4⟩⟩
      | goto t =>
        obtain ⟨C', hk3, hi3⟩ := hp
        obtain ⟨hr, hl4, hk4, hs4, hc4, hk5⟩ := fin (some (.goto t)) W3 C' hk3
        exact ⟨_, _, hr, _, hk5, .inr ⟨rfl, C', .goto t, (hput (.goto t) _ _ _ _).2 hi3, hl4, hk4, hs4⟩⟩
      | panic ch => exact hp.elim
      | outgrown => exact hp.elim
    · rintro k (rfl | hk)
      · omega
      · have := hC k hk; omega
    · -- behind the iterator
      rintro e W2 ⟨⟨v, rfl⟩, C', (⟨Cc, _, _, hi, hl, hk, hs⟩ | ⟨pre, x, post, hx, Cc, c, hi, hl, hk, hs⟩)⟩
      · refine ⟨none, _, by have := run_endLoop (P := P) hl (by rw [hrec]; simp); rw [hrec] at this; exact this, hdone Cc _ (by simpa using hs) ?_ ((World.putObj_heap_other (by omega)).trans hk)⟩
        exact hI _ _ _ _ hi (by simp) rfl rfl rfl (fun k _ hne => World.putObj_heap_other hne)
      · refine ⟨some c, _, by have := run_endLoop (P := P) hl (by rw [hrec]; simp); rw [hrec] at this; exact this, hstop c pre x post Cc _ (by simpa using hs) hx ?_ ((World.putObj_heap_other (by omega)).trans hk)⟩
        exact hIx c _ _ _ _ hi (by simp) rfl rfl rfl (fun k _ hne => World.putObj_heap_other hne)

/-- The marks that range-over-function loops have left among the deferred calls: distinct blocks from B on, each with no call. -/
def MarksOk (B : Nat) (ds : List Deferred) (w : World) : Prop :=
  ∃ Ds : List Nat, ds = Ds.map (fun D => { target := .collected D, args := #[] }) ∧ Ds.Nodup ∧ ∀ D ∈ Ds, B ≤ D ∧ D < w.heap.size ∧ w.heap[D]? = some (.deferred (some []))

theorem MarksOk.nil (B : Nat) (w : World) : MarksOk B [] w := ⟨[], rfl, by simp, by simp⟩
theorem MarksOk.cons {B D : Nat} {ds : List Deferred} {w : World} (h : MarksOk B ds w) (hB : B ≤ D) (hD : w.heap[D]? = some (.deferred (some []))) (hn : ∀ k, { target := .collected k, args := #[] } ∈ ds → k ≠ D) : MarksOk B ({ target := .collected D, args := #[] } :: ds) w := by
  obtain ⟨Ds, rfl, h2, h3⟩ := h
  refine ⟨D :: Ds, rfl, List.nodup_cons.2 ⟨fun hm => hn D (List.mem_map.2 ⟨D, hm, rfl⟩) rfl, h2⟩, fun k hk => ?_⟩
  rcases List.mem_cons.1 hk with rfl | hk
  · exact ⟨hB, lt_of_block hD, hD⟩
  · exact h3 k hk
theorem MarksOk.keeps {B : Nat} {ds : List Deferred} {w w' : World} (h : MarksOk B ds w) (hs : w.heap.size ≤ w'.heap.size) (hk : ∀ k, B ≤ k → k < w.heap.size → w.heap[k]? = some (.deferred (some [])) → w'.heap[k]? = w.heap[k]?) : MarksOk B ds w' := by
  obtain ⟨Ds, h1, h2, h3⟩ := h
  exact ⟨Ds, h1, h2, fun D hD => by
    obtain ⟨a, b, c⟩ := h3 D hD
    exact ⟨a, Nat.lt_of_lt_of_le b hs, (hk D a b c).trans c⟩⟩

/-- What leaving past marks does to memory: the marks' blocks are shut. -/
structure ShutM (B : Nat) (w w' : World) : Prop where
  below : Below B w w'
  same : ∀ k : Nat, (∀ d, w.heap[k]? ≠ some (Obj.deferred d)) → w'.heap[k]? = w.heap[k]?
theorem ShutM.refl (B : Nat) (w : World) : ShutM B w w := ⟨Below.refl _ _, fun _ _ => rfl⟩
theorem ShutM.vals {B : Nat} {w w' : World} (h : ShutM B w w') {a : Option Addr} {l : List Value} (hv : Vals w a l) : Vals w' a l := by
  rcases hv with h0 | ⟨g, o, ha, hg, hc⟩
  · exact .inl h0
  · by_cases hl : l = []
    · exact .inl hl
    · refine .inr ⟨g, o, ha, Nat.lt_of_lt_of_le hg h.below.size, fun i u hu => ?_⟩
      have h1 := hc i u hu
      rw [World.cell?_of_block (h.same g (fun d e => by simp [World.cell?, e] at h1))]
      exact h1

/-- A function leaves past its marks. -/
theorem leaves_marks {P : Program} {fn : Func} {tmps : Array Value} {R : Ending → World → Prop} {B : Nat} {v : Value} : ∀ (ds : List Deferred) (w : World), MarksOk B ds w → B ≤ w.heap.size →
    (∀ w', ShutM B w w' → (results fn tmps).run P w' = .ok v w') → (∀ w', ShutM B w w' → R (.returned v) w') → LeavesInM Fence.wide 0 P fn tmps R ds .returning w := by
  intro ds
  induction ds with
  | nil => intro w _ _ h1 h2; exact ⟨v, h1 w (ShutM.refl _ _), h2 w (ShutM.refl _ _)⟩
  | cons d ds ih =>
    intro w hm hB h1 h2
    obtain ⟨Ds, he, hnd, hall⟩ := hm
    cases Ds with
    | nil => cases he
    | cons D Ds =>
      simp only [List.map_cons, List.cons.injEq] at he
      obtain ⟨rfl, rfl⟩ := he
      obtain ⟨hBD, hlt, hD⟩ := hall D (by simp)
      have hb : Below B w (w.putObj D (.deferred none)) := (Below.refl B w).grown (grownBy_putObj' w D _) hB (fun k e => by cases e; exact hBD)
      have hsh : ∀ w', ShutM B (w.putObj D (.deferred none)) w' → ShutM B w w' := fun w' h => ⟨hb.trans h.below, fun k hk => by
        have hkD : k ≠ D := fun e => by subst e; exact hk _ hD
        have e1 : (w.putObj D (.deferred none)).heap[k]? = w.heap[k]? := World.putObj_heap_other hkD
        rw [h.same k (fun d => by rw [e1]; exact hk d), e1]⟩
      refine ⟨by simp, .inl ⟨D, _, rfl, run_takeDeferred hD, ih _ ?_ (by simpa using hB) (fun w' h => h1 w' (hsh w' h)) (fun w' h => h2 w' (hsh w' h))⟩⟩
      rw [List.nodup_cons] at hnd
      refine ⟨Ds, rfl, hnd.2, fun k hk => ?_⟩
      obtain ⟨a, b, c⟩ := hall k (List.mem_cons_of_mem _ hk)
      exact ⟨a, by simpa using b, (World.putObj_heap_other (fun e : k = D => hnd.1 (by rw [← e]; exact hk))).trans c⟩

theorem ShutM.blk {B : Nat} {w w' : World} (h : ShutM B w w') {b : Nat} {cs : Array Value} {t : TypeId} (hb : Blk w b cs t) : Blk w' b cs t :=
  (h.same b (fun d e => by rw [hb] at e; cases e)).trans hb

/-- A slice that reads as a list, its row not block n. -/
def ValsX (n : Nat) (w : World) (a : Option Addr) (vs : List Value) : Prop := Vals w a vs ∧ (vs = [] ∨ ∀ g o, a = some ⟨g, o, none⟩ → g ≠ n)
theorem ValsX.of {n : Nat} {w : World} {a : Option Addr} {vs : List Value} {r : Loop} (h : Vals w a vs) (hn : w.heap[n]? = some (.loop r)) : ValsX n w a vs := by
  refine ⟨h, ?_⟩
  rcases h with h | ⟨g, o, ha, _, hc⟩
  · exact .inl h
  · cases vs with
    | nil => exact .inl rfl
    | cons x xs =>
      refine .inr fun g' o' e => ?_
      rw [ha] at e; cases e
      have := hc 0 x rfl
      intro e; subst e
      simp [World.cell?, hn] at this
theorem ValsX.firm {n : Nat} {w w' : World} {a : Option Addr} {vs : List Value} (h : ValsX n w a vs) (hs : w.heap.size ≤ w'.heap.size) (hk : ∀ k, k < w.heap.size → k ≠ n → w'.heap[k]? = w.heap[k]?) : ValsX n w' a vs := by
  refine ⟨?_, h.2⟩
  rcases h.1 with h1 | ⟨g, o, ha, hg, hc⟩
  · exact .inl h1
  · rcases h.2 with h2 | h2
    · exact .inl h2
    · exact .inr ⟨g, o, ha, Nat.lt_of_lt_of_le hg hs, fun i u hu => (World.cell?_of_block (hk g hg (h2 g o ha))).trans (hc i u hu)⟩

theorem FirmX.below {β : Type} {l B : Nat} {w : World} (hw : B ≤ w.heap.size) (hl : B ≤ l) : FirmX l (fun (_ : β) _ W => Below B w W) :=
  fun _ _ A C h hs ho ht hp hk => h.trans ⟨ho, ht, hp, hs, fun k hkB => hk k (by have := h.size; omega) (by omega)⟩
theorem FirmX.blk {β : Type} {l b : Nat} {t : TypeId} (f : β → Array Value) (hl : b ≠ l) : FirmX l (fun (s : β) _ W => Blk W b (f s) t) :=
  fun _ _ _ _ h _ _ _ _ hk => (hk b h.lt hl).trans h
theorem FirmX.pure {β : Type} {l : Nat} (p : β → (Nat → Prop) → Prop) : FirmX l (fun (s : β) C _ => p s C) := fun _ _ _ _ h _ _ _ _ _ => h
theorem FirmX.and {β : Type} {l : Nat} {I J : β → (Nat → Prop) → World → Prop} (h : FirmX l I) (h' : FirmX l J) : FirmX l (fun s C W => I s C W ∧ J s C W) :=
  fun s C A B hs a b c d e => ⟨h s C A B hs.1 a b c d e, h' s C A B hs.2 a b c d e⟩
theorem FirmX.ex {β γ : Type} {l : Nat} {I : γ → β → (Nat → Prop) → World → Prop} (h : ∀ c, FirmX l (I c)) : FirmX l (fun s C W => ∃ c, I c s C W) :=
  fun s C A B ⟨c, hs⟩ a b d e f => ⟨c, h c s C A B hs a b d e f⟩
theorem FirmX.false {β : Type} {l : Nat} : FirmX l (fun (_ : β) _ _ => False) := fun _ _ _ _ h _ _ _ _ _ => h
theorem Grew.refl {C : Nat → Prop} {A B : World} (h : KeepsX C A B) (hC : ∀ k, C k → k < A.heap.size) : Grew C C A B :=
  ⟨fun _ h => .inl h, fun k hk => Nat.lt_of_lt_of_le (hC k hk) h.size, h⟩
end Go.Proofs.YtkmpdcckgibkhaaGreat
