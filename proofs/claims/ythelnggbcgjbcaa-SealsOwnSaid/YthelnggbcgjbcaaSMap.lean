/-
  Maps in memory that the call itself made, read as lists of keys and values in the order of their laying. No program.
-/
import Derived.Test.YthelnggbcgjbcaaBase
import Derived.Maps.RangeRun
import Derived.WideKeyRuns
namespace Go.Proofs.Ythelnggbcgjbcaa
open Go.RowKit Go.ChangeMaps

/-- The entries of a map, numbered from i on. -/
def ents {α : Type} (enc : α → Value) : List (α × Value) → Nat → List MapEntry
  | [], _ => []
  | (a, v) :: r, i => { key := enc a, val := v, born := i } :: ents enc r (i + 1)
/-- Where a key stands, and its value. -/
def fnd {α : Type} [DecidableEq α] (a : α) : List (α × Value) → Nat → Option (Nat × Value)
  | [], _ => none
  | (b, v) :: r, i => if a = b then some (i, v) else fnd a r (i + 1)
def get {α : Type} [DecidableEq α] (a : α) (l : List (α × Value)) : Option Value := (fnd a l 0).map (·.2)
/-- A value laid at a key. -/
def put {α : Type} [DecidableEq α] (a : α) (u : Value) : List (α × Value) → List (α × Value)
  | [] => [(a, u)]
  | (b, v) :: r => if a = b then (b, u) :: r else (b, v) :: put a u r

structure KT (P : Program) (kt : TypeId) {α : Type} [DecidableEq α] (enc : α → Value) : Prop where
  check : ∀ (em : Bool) (a : α) (w : World), (Instr.checkKey em 10000 kt (enc a)).run P w = .ok () w
  find : ∀ (a : α) (l : List (α × Value)) (w : World), (Instr.findKey kt (enc a) (ents enc l 0)).run P w = .ok (fnd a l 0) w
  same : ∀ a : α, Instr.sameBits 10000 (enc a) (enc a) = true

variable {α : Type} {P : Program} {kt t e : TypeId} {enc : α → Value} {w : World} {b : Nat} {l : List (α × Value)}

theorem find_asking [DecidableEq α] (heq : ∀ (a b : α) (w : World), (Op.equal kt (enc a) (enc b)).run P w = .ok (decide (a = b)) w) (a : α) (w : World) : ∀ (l : List (α × Value)) (i : Nat), (Instr.findAsking kt (enc a) (ents enc l i) i).run P w = .ok (fnd a l i) w := by
  intro l
  induction l with
  | nil => intro i; simp [ents, fnd, Instr.findAsking, Sem.run_pure]
  | cons p r ih =>
    intro i
    obtain ⟨b, v⟩ := p
    simp only [ents, fnd, Instr.findAsking, Sem.run_bind, heq, Result.andThen]
    by_cases h : a = b
    · simp [h, Sem.run_pure]
    · simp [h, ih]
theorem KT.wide [DecidableEq α] (hu : (match P.underlying kt with | some (.array _ _) | some (.struct _) => true | _ => false) = true)
    (heq : ∀ (a b : α) (w : World), (Op.equal kt (enc a) (enc b)).run P w = .ok (decide (a = b)) w)
    (hc : ∀ (em : Bool) (a : α) (w : World), (Instr.checkKey em 10000 kt (enc a)).run P w = .ok () w) (hs : ∀ a : α, Instr.sameBits 10000 (enc a) (enc a) = true) : KT P kt enc where
  check := hc
  find a l w := by rw [run_findKey_eq w hu]; exact find_asking heq a w l 0
  same := hs

/-- A block is a map that reads as a list. -/
def MapIs (enc : α → Value) (w : World) (b : Nat) (l : List (α × Value)) : Prop := w.heap[b]? = some (.map (ents enc l 0).toArray l.length)

theorem ents_len : ∀ (l : List (α × Value)) (i : Nat), (ents enc l i).length = l.length := by
  intro l
  induction l with
  | nil => intro i; rfl
  | cons p r ih => intro i; obtain ⟨a, v⟩ := p; simp [ents, ih]
theorem MapIs.lt (h : MapIs enc w b l) : b < w.heap.size := by
  rcases Nat.lt_or_ge b w.heap.size with h' | h'
  · exact h'
  · unfold MapIs at h; rw [Array.getElem?_eq_none h'] at h; cases h
theorem MapIs.made (w : World) : MapIs enc (w.alloc (.map #[] 0)) w.heap.size [] := by
  show (w.heap.push _)[w.heap.size]? = _
  simp [ents]
theorem MapIs.below {B : Nat} {w' : World} (h : MapIs enc w b l) (hb : Below B w w') (hB : b < B) : MapIs enc w' b l := (hb.block b hB).trans h
theorem MapIs.alloc (h : MapIs enc w b l) (o : Obj) : MapIs enc (w.alloc o) b l := (Below.heap_alloc w o b h.lt).trans h
theorem MapIs.drew (h : MapIs enc w b l) : MapIs enc w.drew b l := h
theorem MapIs.setCell (h : MapIs enc w b l) (p : Addr) (hp : b ≠ p.block) (u : Value) : MapIs enc (w.setCell p u) b l := (Below.heap_setCell w p u b hp).trans h

theorem MapIs.look [DecidableEq α] (h : MapIs enc w b l) (K : KT P kt enc) (ht : P.underlying t = some (.map kt e)) {z : Value} (hz : (zeroValue e).run P w = .ok z w) (a : α) (c : Bool) :
    (Instr.lookup t (.map (some b)) (enc a) c).run P w = .ok (if c then .tuple #[(get a l).getD z, .bool (get a l).isSome] else (get a l).getD z) w := by
  unfold MapIs at h
  simp only [Instr.lookup, Sem.run_bind, run_underlying ht, Result.andThen, getObj, Sem.run, h, K.check, get]
  cases hf : fnd a l 0 with
  | none => cases c <;> simp [K.find, hf, hz, Result.andThen, Sem.run_pure]
  | some p => cases c <;> simp [K.find, hf, Sem.run_pure]

theorem ents_fnd_none [DecidableEq α] (a : α) : ∀ (l : List (α × Value)) (i : Nat), fnd a l i = none → ∀ u, put a u l = l ++ [(a, u)] := by
  intro l
  induction l with
  | nil => intro i _ u; rfl
  | cons p r ih =>
    intro i h u
    obtain ⟨b, v⟩ := p
    simp only [fnd] at h
    by_cases e : a = b
    · rw [if_pos e] at h; cases h
    · rw [if_neg e] at h; simp only [put]; rw [if_neg e, ih _ h]; rfl
theorem ents_append : ∀ (l m : List (α × Value)) (i : Nat), ents enc (l ++ m) i = ents enc l i ++ ents enc m (i + l.length) := by
  intro l
  induction l with
  | nil => intro m i; rfl
  | cons p r ih => intro m i; obtain ⟨a, v⟩ := p; simp only [List.cons_append, ents, ih, List.length_cons]; congr 3; omega
theorem fnd_some [DecidableEq α] (a : α) : ∀ (l : List (α × Value)) (i j : Nat) (v : Value), fnd a l i = some (j, v) → ∃ k, j = i + k ∧ k < l.length ∧ (ents enc l i)[k]? = some { key := enc a, val := v, born := i + k } ∧ l[k]? = some (a, v) ∧ ∀ u, put a u l = l.set k (a, u) := by
  intro l
  induction l with
  | nil => intro i j v h; cases h
  | cons p r ih =>
    intro i j v h
    obtain ⟨b, x⟩ := p
    simp only [fnd] at h
    by_cases e : a = b
    · rw [if_pos e] at h
      cases h; subst e
      exact ⟨0, rfl, by simp, by simp [ents], rfl, fun u => by simp [put]⟩
    · rw [if_neg e] at h
      obtain ⟨k, h1, h2, h3, h4, h5⟩ := ih _ _ _ h
      refine ⟨k + 1, by omega, by simpa using h2, ?_, by simpa using h4, fun u => ?_⟩
      · simp only [ents, List.getElem?_cons_succ]; rw [h3, show i + 1 + k = i + (k + 1) by omega]
      · simp only [put]; rw [if_neg e, h5]; rfl
theorem ents_set (a : α) (u : Value) : ∀ (l : List (α × Value)) (i k : Nat) (v : Value), l[k]? = some (a, v) → ents enc (l.set k (a, u)) i = (ents enc l i).set k { key := enc a, val := u, born := i + k } := by
  intro l
  induction l with
  | nil => intro i k v h; simp at h
  | cons p r ih =>
    intro i k v h
    obtain ⟨b, x⟩ := p
    cases k with
    | zero => simp at h; simp [ents]
    | succ k =>
      simp only [List.set_cons_succ, ents]
      rw [ih (i + 1) k v (by simpa using h), show i + 1 + k = i + (k + 1) by omega]
theorem put_len [DecidableEq α] (a : α) (u : Value) : ∀ l : List (α × Value), (put a u l).length = if (fnd a l 0).isSome then l.length else l.length + 1 := by
  intro l
  cases h : fnd a l 0 with
  | none => rw [ents_fnd_none a l 0 h]; simp
  | some p => obtain ⟨k, -, -, -, -, h5⟩ := fnd_some (enc := fun _ => .nilFunc) a l 0 p.1 p.2 h; rw [h5]; simp

/-- 'm[k] = v'. -/
theorem MapIs.store [DecidableEq α] (h : MapIs enc w b l) (K : KT P kt enc) (ht : P.underlying t = some (.map kt e)) (a : α) (u : Value) :
    ∃ w', (Instr.mapUpdate t (.map (some b)) (enc a) u).run P w = .ok () w' ∧ MapIs enc w' b (put a u l) ∧ (∃ o, w' = setBlock w b o) := by
  unfold MapIs at h
  have hlt : b < w.heap.size := MapIs.lt (enc := enc) (l := l) h
  have hset : ∀ o, (setObj b o).run P w = .ok () (setBlock w b o) := fun o => by simp [setObj, Sem.run, h, setBlock]
  have hrd : ∀ o, (setBlock w b o).heap[b]? = some o := fun o => by simp [setBlock, hlt]
  cases hf : fnd a l 0 with
  | none =>
    refine ⟨setBlock w b (.map (((ents enc l 0).toArray).push { key := enc a, val := u, born := l.length }) (l.length + 1)), ?_, ?_, ⟨_, rfl⟩⟩
    · simp only [Instr.mapUpdate, Sem.run_bind, run_underlying ht, Result.andThen, getObj, Sem.run, h, K.check, K.find, hf, hset]
    · unfold MapIs
      rw [hrd, ents_fnd_none a l 0 hf, ents_append]
      simp [ents]
  | some p =>
    obtain ⟨j, v⟩ := p
    obtain ⟨k, hj, hk, h3, h4, h5⟩ := fnd_some (enc := enc) a l 0 j v hf
    rw [Nat.zero_add] at hj
    subst hj
    have hes : (ents enc l 0).toArray[j]? = some { key := enc a, val := v, born := 0 + j } := by rw [List.getElem?_toArray]; exact h3
    refine ⟨setBlock w b (.map (((ents enc l 0).toArray).modify j fun e => { e with key := enc a, val := u }) l.length), ?_, ?_, ⟨_, rfl⟩⟩
    · simp only [Instr.mapUpdate, Sem.run_bind, run_underlying ht, Result.andThen, getObj, Sem.run, h, K.check, K.find, hf, hes, Option.map_some, Option.getD_some, Instr.keyThatStays, K.same, if_true, Sem.run_pure, hset]
    · unfold MapIs
      rw [hrd, h5, ents_set a u l 0 j v h4, List.length_set]
      congr 2
      apply Array.ext'
      rw [Array.toList_modify]
      refine List.ext_getElem? fun i => ?_
      rw [List.getElem?_modify, List.getElem?_set]
      by_cases hij : j = i
      · subst hij
        have hjl : j < (ents enc l 0).length := by rw [ents_len]; exact hk
        simp only [if_true, h3, hjl, Nat.zero_add]; rfl
      · simp only [if_neg hij]; cases (ents enc l 0)[i]? <;> rfl
theorem ents_findIdx : ∀ (l : List (α × Value)) (i k : Nat), k < l.length → (ents enc l i).findIdx? (fun e => (e.born : Int) == ((i + k : Nat) : Int)) = some k := by
  intro l
  induction l with
  | nil => intro i k h; simp at h
  | cons p r ih =>
    intro i k h
    obtain ⟨b, v⟩ := p
    cases k with
    | zero => simp [ents, List.findIdx?_cons]
    | succ k =>
      have h2 := ih (i + 1) k (by simpa using h)
      rw [show i + 1 + k = i + (k + 1) by omega] at h2
      have hne : (((i : Nat) : Int) == ((i + (k + 1) : Nat) : Int)) = false := by rw [beq_eq_false_iff_ne]; omega
      simp only [ents, List.findIdx?_cons, hne, h2]
      rfl
theorem fnd_append_new [DecidableEq α] (a : α) (u : Value) : ∀ (l : List (α × Value)) (i : Nat), fnd a l i = none → fnd a (l ++ [(a, u)]) i = some (i + l.length, u) := by
  intro l
  induction l with
  | nil => intro i _; simp [fnd]
  | cons p r ih =>
    intro i h
    obtain ⟨b, v⟩ := p
    simp only [fnd] at h
    by_cases e : a = b
    · rw [if_pos e] at h; cases h
    · rw [if_neg e] at h
      simp only [List.cons_append, fnd]
      rw [if_neg e, ih _ h]
      simp only [List.length_cons]
      congr 2; omega
/-- The two halves of 'm[k] += v'. -/
theorem MapIs.bump [DecidableEq α] (h : MapIs enc w b l) (K : KT P kt enc) (ht : P.underlying t = some (.map kt e)) {z : Value} (hz : ∀ w, (zeroValue e).run P w = .ok z w) (a : α) :
    ∃ w1 stamp l1, (Instr.mapEntry t (.map (some b)) (enc a)).run P w = .ok (.tuple #[(get a l).getD z, .int .i64 stamp]) w1 ∧ (∃ o, w1 = setBlock w b o) ∧ MapIs enc w1 b l1 ∧ get a l1 = some ((get a l).getD z) ∧
      ∀ u, ∃ w2, (Instr.entryStore t (.map (some b)) (.int .i64 stamp) u).run P w1 = .ok () w2 ∧ MapIs enc w2 b (put a u l) ∧ (∃ o, w2 = setBlock w1 b o) := by
  unfold MapIs at h
  have hlt : b < w.heap.size := MapIs.lt (enc := enc) (l := l) h
  have hset : ∀ o, (setObj b o).run P w = .ok () (setBlock w b o) := fun o => by simp [setObj, Sem.run, h, setBlock]
  have hrd : ∀ (w : World) (o : Obj), b < w.heap.size → (setBlock w b o).heap[b]? = some o := fun w o hlt => by simp [setBlock, hlt]
  have hstore : ∀ (w1 : World) (l1 : List (α × Value)) (k : Nat) (v : Value) (u : Value), w1.heap[b]? = some (.map (ents enc l1 0).toArray l1.length) → k < l1.length → l1[k]? = some (a, v) →
      ∃ w2, (Instr.entryStore t (.map (some b)) (.int .i64 (k : Int)) u).run P w1 = .ok () w2 ∧ MapIs enc w2 b (l1.set k (a, u)) ∧ (∃ o, w2 = setBlock w1 b o) := by
    intro w1 l1 k v u h1 hk hl1
    have hset1 : ∀ o, (setObj b o).run P w1 = .ok () (setBlock w1 b o) := fun o => by simp [setObj, Sem.run, h1, setBlock]
    have hlt1 : b < w1.heap.size := MapIs.lt (enc := enc) (l := l1) h1
    have hfi := ents_findIdx (enc := enc) l1 0 k hk
    rw [Nat.zero_add] at hfi
    refine ⟨setBlock w1 b (.map (((ents enc l1 0).toArray).modify k fun e => { e with val := u }) l1.length), ?_, ?_, ⟨_, rfl⟩⟩
    · have hfa : (ents enc l1 0).toArray.findIdx? (fun e => (e.born : Int) == (k : Int)) = some k := by rw [List.findIdx?_toArray]; exact hfi
      have hai : ∀ w, (asInt (.int .i64 (k : Int))).run P w = .ok (k : Int) w := fun w => rfl
      simp only [Instr.entryStore, Sem.run_bind, getObj, Sem.run, h1, Result.andThen, hai, hfa, hset1]
    · unfold MapIs
      rw [hrd _ _ hlt1, ents_set a u l1 0 k v hl1, List.length_set]
      congr 2
      apply Array.ext'
      rw [Array.toList_modify]
      refine List.ext_getElem? fun i => ?_
      rw [List.getElem?_modify, List.getElem?_set]
      have hkl : k < (ents enc l1 0).length := by rw [ents_len]; exact hk
      have hek : (ents enc l1 0)[k]? = some { key := enc a, val := v, born := 0 + k } := by
        have : ∀ (l : List (α × Value)) (i k : Nat), l[k]? = some (a, v) → (ents enc l i)[k]? = some { key := enc a, val := v, born := i + k } := by
          intro l
          induction l with
          | nil => intro i k h; simp at h
          | cons p r ih =>
            intro i k h
            obtain ⟨b, x⟩ := p
            cases k with
            | zero => simp at h; simp [ents, h]
            | succ k => simp only [ents, List.getElem?_cons_succ]; rw [ih (i + 1) k (by simpa using h), show i + 1 + k = i + (k + 1) by omega]
        exact this l1 0 k hl1
      by_cases hij : k = i
      · subst hij
        simp only [if_true, hek, hkl, Nat.zero_add]; rfl
      · simp only [if_neg hij]; cases (ents enc l1 0)[i]? <;> rfl
  cases hf : fnd a l 0 with
  | none =>
    have hg : (get a l).getD z = z := by simp [get, hf]
    have hw1 : (setBlock w b (.map (((ents enc l 0).toArray).push { key := enc a, val := z, born := l.length }) (l.length + 1))).heap[b]? = some (.map (ents enc (l ++ [(a, z)]) 0).toArray (l ++ [(a, z)]).length) := by
      rw [hrd _ _ hlt, ents_append]; simp [ents]
    refine ⟨setBlock w b (.map (((ents enc l 0).toArray).push { key := enc a, val := z, born := l.length }) (l.length + 1)), (l.length : Int), l ++ [(a, z)], ?_, ⟨_, rfl⟩, hw1, ?_, ?_⟩
    · simp only [Instr.mapEntry, Sem.run_bind, run_underlying ht, Result.andThen, getObj, Sem.run, h, K.check, K.find, hf, hz, hset, hg, Sem.run_pure]; rfl
    · rw [hg]; unfold get; rw [fnd_append_new a z l 0 hf]; rfl
    · intro u
      obtain ⟨w2, h1, h2, h3⟩ := hstore _ (l ++ [(a, z)]) l.length z u hw1 (by simp) (by simp)
      refine ⟨w2, h1, ?_, h3⟩
      rw [ents_fnd_none a l 0 hf]
      simpa using h2
  | some p =>
    obtain ⟨j, v⟩ := p
    obtain ⟨k, hj, hk, h3, h4, h5⟩ := fnd_some (enc := enc) a l 0 j v hf
    rw [Nat.zero_add] at hj
    subst hj
    have hg : (get a l).getD z = v := by simp [get, hf]
    have hes : (ents enc l 0).toArray[j]? = some { key := enc a, val := v, born := 0 + j } := by rw [List.getElem?_toArray]; exact h3
    have hmod : ((ents enc l 0).toArray).modify j (fun e => { e with key := enc a }) = (ents enc l 0).toArray := by
      apply Array.ext'
      rw [Array.toList_modify]
      refine List.ext_getElem? fun i => ?_
      rw [List.getElem?_modify]
      by_cases hij : j = i
      · subst hij; simp only [if_true]; rw [show ((ents enc l 0).toArray.toList)[j]? = some { key := enc a, val := v, born := 0 + j } from h3]; rfl
      · simp only [if_neg hij]; cases ((ents enc l 0).toArray.toList)[i]? <;> rfl
    have hw1 : (setBlock w b (.map (ents enc l 0).toArray l.length)).heap[b]? = some (.map (ents enc l 0).toArray l.length) := hrd _ _ hlt
    refine ⟨setBlock w b (.map (ents enc l 0).toArray l.length), (j : Int), l, ?_, ⟨_, rfl⟩, hw1, ?_, ?_⟩
    · simp only [Instr.mapEntry, Sem.run_bind, run_underlying ht, Result.andThen, getObj, Sem.run, h, K.check, K.find, hf, hes, Option.map_some, Option.getD_some, Instr.keyThatStays, K.same, if_true, Sem.run_pure, hset, hmod, hg]
      simp [goInt]
    · rw [hg]; simp [get, hf]
    · intro u
      obtain ⟨w2, h1, h2, h3'⟩ := hstore _ l j v u hw1 hk h4
      exact ⟨w2, h1, by rw [h5]; exact h2, h3'⟩
theorem setBlock_below {B : Nat} {w0 : World} (h : Below B w0 w) (hb : B ≤ b) (o : Obj) : Below B w0 (setBlock w b o) := by
  refine h.trans ⟨rfl, rfl, rfl, by simp [setBlock], fun k hk => ?_⟩
  simp only [setBlock]
  rw [Array.getElem?_setIfInBounds_ne (by omega)]
theorem setBlock_other {w : World} (k : Nat) (hk : k ≠ b) (o : Obj) : (setBlock w b o).heap[k]? = w.heap[k]? := by
  simp only [setBlock]
  rw [Array.getElem?_setIfInBounds_ne (by omega)]

/-! ### Ranging over a map that is not written meanwhile -/
def IterAt (w : World) (r b n : Nat) (seen : Array Nat) : Prop := w.heap[r]? = some (.mapIter (some b) n seen n)
theorem IterAt.lt {r n : Nat} {seen : Array Nat} (h : IterAt w r b n seen) : r < w.heap.size := by
  rcases Nat.lt_or_ge r w.heap.size with h' | h'
  · exact h'
  · unfold IterAt at h; rw [Array.getElem?_eq_none h'] at h; cases h
theorem IterAt.below {B r n : Nat} {seen : Array Nat} {w' : World} (h : IterAt w r b n seen) (hb : Below B w w') (hB : r < B) : IterAt w' r b n seen := (hb.block r hB).trans h
theorem IterAt.other {r n : Nat} {seen : Array Nat} (h : IterAt w r b n seen) {k : Nat} (hk : r ≠ k) (o : Obj) : IterAt (setBlock w k o) r b n seen := (setBlock_other r hk o).trans h
theorem IterAt.alloc {r n : Nat} {seen : Array Nat} (h : IterAt w r b n seen) (o : Obj) : IterAt (w.alloc o) r b n seen := (Below.heap_alloc w o r h.lt).trans h
theorem MapIs.other (h : MapIs enc w b l) {k : Nat} (hk : b ≠ k) (o : Obj) : MapIs enc (setBlock w k o) b l := (setBlock_other b hk o).trans h

theorem MapIs.range (h : MapIs enc w b l) (ht : P.underlying t = some (.map kt e)) :
    (Instr.range t (.map (some b))).run P w = .ok (.pointer (some ⟨w.heap.size, 0, none⟩)) (w.alloc (.mapIter (some b) l.length #[] l.length)) := by
  unfold MapIs at h
  simp [Instr.range, Sem.run_bind, run_underlying ht, Result.andThen, getObj, Sem.run, h, newObj]
theorem IterAt.made (w : World) (b n : Nat) : IterAt (w.alloc (.mapIter (some b) n #[] n)) w.heap.size b n #[] := by
  show (w.heap.push _)[w.heap.size]? = _
  simp
theorem ents_mem : ∀ (l : List (α × Value)) (i : Nat) (x : MapEntry), x ∈ ents enc l i → ∃ k a v, k < l.length ∧ l[k]? = some (a, v) ∧ x = { key := enc a, val := v, born := i + k } := by
  intro l
  induction l with
  | nil => intro i x h; simp [ents] at h
  | cons p r ih =>
    intro i x h
    obtain ⟨b, v⟩ := p
    simp only [ents, List.mem_cons] at h
    rcases h with rfl | h
    · exact ⟨0, b, v, by simp, rfl, rfl⟩
    · obtain ⟨k, a, u, h1, h2, h3⟩ := ih _ _ h
      exact ⟨k + 1, a, u, by simpa using h1, by simpa using h2, by rw [h3, show i + 1 + k = i + (k + 1) by omega]⟩
theorem ents_at : ∀ (l : List (α × Value)) (i k : Nat) (a : α) (v : Value), l[k]? = some (a, v) → { key := enc a, val := v, born := i + k } ∈ ents enc l i := by
  intro l
  induction l with
  | nil => intro i k a v h; simp at h
  | cons p r ih =>
    intro i k a v h
    obtain ⟨b, x⟩ := p
    cases k with
    | zero => simp at h; simp [ents, h]
    | succ k =>
      have := ih (i + 1) k a v (by simpa using h)
      rw [show i + 1 + k = i + (k + 1) by omega] at this
      simp only [ents, List.mem_cons]
      exact .inr this
theorem ents_born : ∀ (l : List (α × Value)) (i : Nat), (ents enc l i).map (·.born) = List.range' i l.length := by
  intro l
  induction l with
  | nil => intro i; rfl
  | cons p r ih => intro i; obtain ⟨a, v⟩ := p; simp [ents, ih, List.range'_succ]
theorem MapIs.next {r : Nat} {seen : Array Nat} (h : MapIs enc w b l) (hr : IterAt w r b l.length seen) (ty : TypeId) :
    ((∀ k, k < l.length → k ∈ seen.toList) ∧ (Instr.next (.pointer (some ⟨r, 0, none⟩)) false ty).run P w = .ok (.tuple #[.bool false]) w) ∨
    ∃ k a v w1, k < l.length ∧ k ∉ seen.toList ∧ l[k]? = some (a, v) ∧ (∃ w0, (w0 = w ∨ w0 = w.drew) ∧ w1 = setBlock w0 r (.mapIter (some b) l.length (seen.push k) l.length)) ∧
      (Instr.next (.pointer (some ⟨r, 0, none⟩)) false ty).run P w = .ok (.tuple #[.bool true, enc a, v]) w1 ∧ IterAt w1 r b l.length (seen.push k) ∧ MapIs enc w1 b l ∧
      (Instr.entry (.pointer (some ⟨r, 0, none⟩))).run P w1 = .ok (.tuple #[enc a, v]) w1 := by
  have hne : b ≠ r := by
    intro e
    unfold MapIs at h; unfold IterAt at hr
    rw [e, hr] at h; cases h
  have hold : ∀ x ∈ (ents enc l 0).toArray.toList, x.born < l.length := by
    intro x hx
    obtain ⟨k, a, v, h1, h2, rfl⟩ := ents_mem l 0 x hx
    simpa using h1
  rcases run_next_at (P := P) w ty r b l.length l.length seen (ents enc l 0).toArray l.length hr h hold (Nat.le_refl _) with ⟨h0, hn⟩ | ⟨x, hx, w0, hw0, hn⟩
  · left
    refine ⟨fun k hk => ?_, hn⟩
    obtain ⟨a, v⟩ : α × Value := l[k]
    have hm := ents_at (enc := enc) l 0 k l[k].1 l[k].2 (List.getElem?_eq_getElem hk)
    rw [Nat.zero_add] at hm
    by_cases hc : k ∈ seen.toList
    · exact hc
    · exfalso
      have : ({ key := enc l[k].1, val := l[k].2, born := k } : MapEntry) ∈ (leftOf (ents enc l 0).toArray seen).toList := by
        unfold leftOf
        simp
        exact ⟨hm, by simpa using hc⟩
      rw [Array.mem_toList_iff] at this
      have := Array.size_pos_of_mem this
      omega
  · right
    have hx2 : x ∈ (ents enc l 0) ∧ x.born ∉ seen.toList := by
      unfold leftOf at hx
      simp at hx
      exact ⟨hx.1, by simpa using hx.2⟩
    obtain ⟨k, a, v, h1, h2, rfl⟩ := ents_mem l 0 x hx2.1
    simp only [Nat.zero_add] at hx2 hn
    have hsz : r < w0.heap.size := by rcases hw0 with rfl | rfl <;> exact hr.lt
    have hi : IterAt (setBlock w0 r (.mapIter (some b) l.length (seen.push k) l.length)) r b l.length (seen.push k) := by
      unfold IterAt; simp [setBlock, hsz]
    have hm : MapIs enc (setBlock w0 r (.mapIter (some b) l.length (seen.push k) l.length)) b l := by
      refine MapIs.other ?_ hne _
      rcases hw0 with rfl | rfl <;> exact h
    refine ⟨k, a, v, _, h1, hx2.2, h2, ⟨w0, hw0, rfl⟩, hn, hi, hm, ?_⟩
    have := run_entry_at (P := P) (setBlock w0 r (.mapIter (some b) l.length (seen.push k) l.length)) r b l.length seen (ents enc l 0).toArray l.length { key := enc a, val := v, born := k } hi hm (by
      have := ents_at (enc := enc) l 0 k a v h2
      rw [Nat.zero_add] at this; simpa using this) (by
      show ((ents enc l 0).map (·.born)).Nodup
      rw [ents_born]; exact List.nodup_range')
    exact this
end Go.Proofs.Ythelnggbcgjbcaa
