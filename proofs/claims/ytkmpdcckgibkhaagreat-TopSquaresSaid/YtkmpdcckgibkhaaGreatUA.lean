/-
  Texts merged: Base, RowA, RowB, App4, Bytes, SMap, Strs, Steps.
-/
import Derived.WalkKit
import Derived.WalkSpells
import Derived.WalkLawsBesides
import Derived.Laws.AppendOwnNone
import Derived.OwnWalkIn
import Derived.Lib.Strings
import Derived.Deep.QuietTactic
import Derived.BigQuiet
import Derived.Deep.RegionWith
import Derived.StillTailTactics
import Derived.Deep.OwnRows
import Derived.Maps.RangeRun
import Derived.WideKeyRuns
import Derived.Deep.RegionLaw
import Derived.BigRegion
/-
  Small lemmas on strings, lists and blocks of memory, for the walks. No program.
-/
namespace Go.Proofs.YtkmpdcckgibkhaaGreat
open Go.RowKit

theorem hid {p : Prop} (h : p) : Hid p := h

theorem ret_bool {a b : Bool} (h : a = b) : Ending.returned (.bool a) = .returned (.bool b) := by rw [h]
theorem ret_int {k : IntKind} {a b : Int} (h : a = b) : Ending.returned (.int k a) = .returned (.int k b) := by rw [h]

theorem list_drop_cons {α : Type} (l : List α) (k : Nat) (h : k < l.length) : ∃ x, l[k]? = some x ∧ l.drop k = x :: l.drop (k + 1) :=
  ⟨l[k], List.getElem?_eq_getElem h, by rw [List.drop_eq_getElem_cons h]⟩

theorem bytes_len (s : ByteArray) : s.data.toList.length = s.size := rfl

theorem bytes_drop (s : ByteArray) (k : Nat) (h : k < s.size) : s.data.toList.drop k = s[k] :: s.data.toList.drop (k + 1) := by
  rw [List.drop_eq_getElem_cons (show k < s.data.toList.length from h)]
  rfl

theorem bytes_drop_end (s : ByteArray) (k : Nat) (h : s.size ≤ k) : s.data.toList.drop k = [] :=
  List.drop_eq_nil_of_le (by rw [bytes_len]; exact h)

/-- The slice with the address 'a' and the length of 'vs' reads as the values 'vs'. -/
def Vals (w : World) (a : Option Addr) (vs : List Value) : Prop :=
  vs = [] ∨ ∃ g o, a = some ⟨g, o, none⟩ ∧ g < w.heap.size ∧ ∀ i u, vs[i]? = some u → w.cell? ⟨g, o + i, none⟩ = some u

theorem Vals.nil (w : World) (a : Option Addr) : Vals w a [] := .inl rfl

theorem Vals.below {w w' : World} {a : Option Addr} {l : List Value} {B : Nat} (h : Vals w a l) (hb : Below B w w') (hB : w.heap.size ≤ B) : Vals w' a l := by
  rcases h with h | ⟨g, o, ha, hg, hc⟩
  · exact .inl h
  · exact .inr ⟨g, o, ha, Nat.lt_of_lt_of_le hg hb.size, fun i x hx => (hb.cell (p := ⟨g, o + i, none⟩) (Nat.lt_of_lt_of_le hg hB)).trans (hc i x hx)⟩

theorem Vals.take {w : World} {a : Option Addr} {l : List Value} (h : Vals w a l) (n : Nat) : Vals w a (l.take n) := by
  rcases h with h | ⟨g, o, ha, hg, hc⟩
  · subst h; exact .inl (by simp)
  · exact .inr ⟨g, o, ha, hg, fun i x hx => hc i x (by rw [List.getElem?_take] at hx; split at hx <;> simp_all)⟩

theorem Vals.drop {w : World} {g o : Nat} {l : List Value} (h : Vals w (some ⟨g, o, none⟩) l) (n : Nat) : Vals w (some ⟨g, o + n, none⟩) (l.drop n) := by
  rcases h with h | ⟨g', o', ha, hg, hc⟩
  · subst h; exact .inl (by simp)
  · cases ha
    refine .inr ⟨g, o + n, rfl, hg, fun i x hx => ?_⟩
    rw [List.getElem?_drop] at hx
    have := hc (n + i) x hx
    rwa [← Nat.add_assoc] at this

/-- The slice reads as the numbers 'l'. -/
def Ints (w : World) (a : Option Addr) (l : List Int) : Prop := Vals w a (l.map (Value.int .i64))

theorem Ints.nil (w : World) (a : Option Addr) : Ints w a [] := .inl rfl

theorem Ints.below {w w' : World} {a : Option Addr} {l : List Int} {B : Nat} (h : Ints w a l) (hb : Below B w w') (hB : w.heap.size ≤ B) : Ints w' a l := Vals.below h hb hB

theorem Ints.at {w : World} {a : Option Addr} {l : List Int} (h : Ints w a l) (hl : 0 < l.length) :
    ∃ g o, a = some ⟨g, o, none⟩ ∧ g < w.heap.size ∧ ∀ i x, l[i]? = some x → w.cell? ⟨g, o + i, none⟩ = some (.int .i64 x) := by
  rcases h with h | ⟨g, o, ha, hg, hc⟩
  · have : l = [] := by simpa using h
    subst this; exact absurd hl (by simp)
  · exact ⟨g, o, ha, hg, fun i x hx => hc i _ (by rw [List.getElem?_map, hx]; rfl)⟩

theorem Ints.take {w : World} {a : Option Addr} {l : List Int} (h : Ints w a l) (n : Nat) : Ints w a (l.take n) := by
  unfold Ints; rw [List.map_take]; exact Vals.take h n

/-- A block of cells. -/
def Blk (w : World) (b : Nat) (cs : Array Value) (t : TypeId) : Prop := w.heap[b]? = some (.cells cs t (0, 0))

theorem Blk.lt {w : World} {b : Nat} {cs : Array Value} {t : TypeId} (h : Blk w b cs t) : b < w.heap.size := lt_of_block h
theorem Blk.cell {w : World} {b : Nat} {cs : Array Value} {t : TypeId} (h : Blk w b cs t) (j : Nat) : w.cell? ⟨b, j, none⟩ = cs[j]? := cell_of_row w b j cs t (0, 0) h
theorem Blk.free {w : World} {b : Nat} {cs : Array Value} {t : TypeId} (h : Blk w b cs t) (j : Nat) : w.frozen? ⟨b, j, none⟩ = false := by
  unfold Blk at h; simp [World.frozen?, h]
theorem Blk.below {w w' : World} {b : Nat} {cs : Array Value} {t : TypeId} {B : Nat} (h : Blk w b cs t) (hb : Below B w w') (hB : b < B) : Blk w' b cs t :=
  (hb.block b hB).trans h
theorem Blk.alloc {w : World} {b : Nat} {cs : Array Value} {t : TypeId} (h : Blk w b cs t) (o : Obj) : Blk (w.alloc o) b cs t :=
  (Below.heap_alloc w o b h.lt).trans h
theorem Blk.new (w : World) (cs : Array Value) (t : TypeId) : Blk (w.alloc (.cells cs t)) w.heap.size cs t := by
  show (w.heap.push _)[w.heap.size]? = _
  simp
theorem Blk.mk' {w : World} {n : Nat} {cs cs' : Array Value} {t : TypeId} (hn : n = w.heap.size) (hc : cs = cs') : Blk (w.alloc (.cells cs t)) n cs' t := by
  subst hn hc; exact Blk.new w cs t
theorem Blk.set {w : World} {b : Nat} {cs : Array Value} {t : TypeId} (h : Blk w b cs t) (j : Nat) (u : Value) : Blk (w.setCell ⟨b, j, none⟩ u) b (cs.setIfInBounds j u) t := by
  have hlt := h.lt
  have h' : w.heap[b] = .cells cs t (0, 0) := by have := h; unfold Blk at this; simpa [Array.getElem?_eq_getElem hlt] using this
  show (w.heap.modify b _)[b]? = _
  rw [Array.getElem?_eq_getElem (by simpa using hlt), Array.getElem_modify_self, h']
  rfl
theorem Blk.other {w : World} {b : Nat} {cs : Array Value} {t : TypeId} (h : Blk w b cs t) (p : Addr) (hp : b ≠ p.block) (u : Value) : Blk (w.setCell p u) b cs t :=
  (Below.heap_setCell w p u b hp).trans h
theorem Blk.drew {w : World} {b : Nat} {cs : Array Value} {t : TypeId} (h : Blk w b cs t) : Blk w.drew b cs t := h


/-- An array of four numbers. -/
def arr4 (f : Nat → Int) : Array Value := #[.int .i64 (f 0), .int .i64 (f 1), .int .i64 (f 2), .int .i64 (f 3)]
theorem arr4_get (f : Nat → Int) (j : Nat) (h : j < 4) : (arr4 f)[j]? = some (.int .i64 (f j)) := by
  match j, h with
  | 0, _ => rfl
  | 1, _ => rfl
  | 2, _ => rfl
  | 3, _ => rfl
theorem arr4_set (f : Nat → Int) (j : Nat) (x : Int) (h : j < 4) : (arr4 f).setIfInBounds j (.int .i64 x) = arr4 (fun i => if i = j then x else f i) := by
  match j, h with
  | 0, _ => rfl
  | 1, _ => rfl
  | 2, _ => rfl
  | 3, _ => rfl
theorem arr4_congr {f g : Nat → Int} (h : ∀ j, j < 4 → f j = g j) : arr4 f = arr4 g := by
  unfold arr4; rw [h 0 (by omega), h 1 (by omega), h 2 (by omega), h 3 (by omega)]
theorem Blk.cell4 {w : World} {b : Nat} {f : Nat → Int} {t : TypeId} (h : Blk w b (arr4 f) t) (j : Nat) (hj : j < 4) : w.cell? ⟨b, j, none⟩ = some (.int .i64 (f j)) :=
  (h.cell j).trans (arr4_get f j hj)

theorem Blk.store4 {w : World} {b : Nat} {f g : Nat → Int} {t : TypeId} (h : Blk w b (arr4 f) t) (j : Nat) (x : Int) (hj : j < 4) (hg : ∀ i, i < 4 → g i = if i = j then x else f i) : Blk (w.setCell ⟨b, j, none⟩ (.int .i64 x)) b (arr4 g) t := by
  have := h.set j (.int .i64 x)
  rw [arr4_set f j x hj, ← arr4_congr hg] at this
  exact this

theorem Blk.all4 {w : World} {b : Nat} {f : Nat → Int} {t : TypeId} (h : Blk w b (arr4 f) t) :
    w.cell? ⟨b, 0, none⟩ = some (.int .i64 (f 0)) ∧ w.cell? ⟨b, 1, none⟩ = some (.int .i64 (f 1)) ∧ w.cell? ⟨b, 2, none⟩ = some (.int .i64 (f 2)) ∧ w.cell? ⟨b, 3, none⟩ = some (.int .i64 (f 3)) ∧
    w.frozen? ⟨b, 0, none⟩ = false ∧ w.frozen? ⟨b, 1, none⟩ = false ∧ w.frozen? ⟨b, 2, none⟩ = false ∧ w.frozen? ⟨b, 3, none⟩ = false :=
  ⟨h.cell4 0 (by omega), h.cell4 1 (by omega), h.cell4 2 (by omega), h.cell4 3 (by omega), h.free 0, h.free 1, h.free 2, h.free 3⟩

/-- What a call returns: a slice that reads as 'l'; what was there is as it was. -/
def RetInts (l : List Int) (w : World) (e : Ending) (w' : World) : Prop := ∃ a c, e = .returned (.slice a l.length c) ∧ Ints w' a l ∧ Below w.heap.size w w'

theorem ownsRow_vals {w : World} {base e n : Nat} {v : Value} {l : List Value} (h : w.ownsRow base e 1 v n l) :
    ∃ a c, v = .slice a l.length c ∧ Vals w a l ∧ n = l.length := by
  obtain ⟨h1, h2⟩ := h
  rw [Nat.mul_one] at h1
  rcases h2 with ⟨hv, hn⟩ | ⟨g, cap, cur, hv, _, hg, _, _, _, ht⟩
  · subst hn
    have : l = [] := List.eq_nil_of_length_eq_zero h1
    subst this
    exact ⟨none, 0, hv, .inl rfl, rfl⟩
  · refine ⟨some ⟨g, 0, none⟩, cap, by rw [hv, h1], .inr ⟨g, 0, rfl, lt_of_block hg, fun i x hx => ?_⟩, h1.symm⟩
    rw [Nat.zero_add, cell_of_row w g i cur e (0, 0) hg]
    rw [← ht, List.getElem?_take] at hx
    split at hx
    · simpa using hx
    · cases hx

theorem ownsRow_ints {w : World} {base e n : Nat} {v : Value} {l : List Int} (h : w.ownsRow base e 1 v n (l.map (Value.int .i64))) :
    ∃ a c, v = .slice a l.length c ∧ Ints w a l := by
  obtain ⟨a, c, hv, hr, _⟩ := ownsRow_vals h
  exact ⟨a, c, by rw [hv, List.length_map], hr⟩

theorem ownsRow_facts {w : World} {base e n m c : Nat} {a : Option Addr} {xs : List Value} (h : w.ownsRow base e 1 (.slice a n c) m xs) : n = m ∧ n ≤ c ∧ (a = none → c = 0) := by
  rcases h.2 with ⟨h, h'⟩ | ⟨g, cap, cur, h, _, _, h', _⟩
  · simp only [Value.slice.injEq] at h
    obtain ⟨_, h1, h2⟩ := h
    subst h1 h2
    exact ⟨h'.symm, by omega, fun _ => rfl⟩
  · simp only [Value.slice.injEq] at h
    obtain ⟨h0, h1, h2⟩ := h
    subst h0 h1 h2
    exact ⟨rfl, h', fun h => by cases h⟩

theorem vals_cells {w : World} {g o : Nat} {l : List Value} (h : ∀ i u, l[i]? = some u → w.cell? ⟨g, o + i, none⟩ = some u) :
    ∀ j u, l[j]? = some u → w.cell? ((⟨g, o, none⟩ : Addr).add j) = some u := by
  intro j u hu
  have := h j u hu
  unfold Addr.add; split
  · rename_i h0; subst h0; simpa using this
  · exact this

theorem vals_new (w : World) (cs : Array Value) (t : TypeId) (l : List Value) (h : cs.toList = l) : Vals (w.alloc (.cells cs t)) (some ⟨w.heap.size, 0, none⟩) l := by
  subst h
  refine .inr ⟨w.heap.size, 0, rfl, by simp, fun i u hu => ?_⟩
  rw [Nat.zero_add, (Blk.new w cs t).cell i]
  simpa using hu

/-- 'append(v, xs...)': v is nil or the call's own; xs, nil or not, reads as 'news'. -/
theorem run_app {P : Program} (w : World) (base : Nat) (t ty e : TypeId) (z : Value) (bytes : Nat) (ht : P.underlying t = some (.slice e)) (hi : (P.info? e).map (fun i => (i.zero, i.size, i.bytes)) = some (some z, 1, bytes))
    (hz : z.cells.size = 1) (v : Value) (n : Nat) (xs : List Value) (hown : w.ownsRow base e 1 v n xs) (ad : Option Addr) (m c : Nat) (news : List Value) (hm : m = news.length) (hs : Vals w ad news) (hnil : ad = none → m = 0 ∧ c = 0) (h1 : ∀ u ∈ news, u.oneCell' = true)
    (h63 : n + m ≤ 17592186044416) (hb8 : bytes ≤ 8) (hbase : base ≤ w.heap.size) :
    ∃ v' w', (Builtin.append_ #[t, t] ty #[v, .slice ad m c]).run P w = .ok v' w' ∧ w'.ownsRow base e 1 v' (n + m) (xs ++ news) ∧ w.grownBy w' v.ownBlock ∧ (v' = .slice none 0 0 ↔ v = .slice none 0 0 ∧ m = 0) := by
  obtain ⟨i, h2, hz0, hz1, hz2⟩ := info_parts hi
  subst hm
  cases ad with
  | none =>
    obtain ⟨hn0, rfl⟩ := hnil rfl
    have hnw : news = [] := List.eq_nil_of_length_eq_zero hn0
    subst hnw
    have hrun := run_append_owned_none (P := P) (w := w) base t ty e i 1 ht h2 v n xs hown
    exact ⟨v, w, hrun, by simpa using hown, ⟨rfl, rfl, rfl, Nat.le_refl _, fun _ _ _ => rfl⟩, by simp⟩
  | some ad =>
    refine run_append_own (P := P) w base t ty e i z 1 bytes ht h2 hz0 hz1 hz2 hz (by omega) v n xs hown ad _ c news (by simp) ?_ h1 (by unfold maxLen; omega) ?_ hbase
    · rcases hs with h | ⟨g, o, ha, _, hc⟩
      · subst h; intro j u hu; simp at hu
      · cases ha; exact vals_cells hc
    · calc (n + news.length) * bytes ≤ 17592186044416 * 8 := Nat.mul_le_mul h63 hb8
        _ ≤ _ := by omega

/-- Where the row lies behind an append: where it lay, or in a new block. -/
theorem run_app_where {P : Program} (w : World) (base : Nat) (t ty e : TypeId) (z : Value) (bytes : Nat) (ht : P.underlying t = some (.slice e)) (hi : (P.info? e).map (fun i => (i.zero, i.size, i.bytes)) = some (some z, 1, bytes))
    (v : Value) (n : Nat) (xs : List Value) (hown : w.ownsRow base e 1 v n xs) (ad : Option Addr) (m c : Nat) (news : List Value) (hm : m = news.length) (hs : Vals w ad news) (hnil : ad = none → m = 0 ∧ c = 0) (h1 : ∀ u ∈ news, u.oneCell' = true)
    (h63 : n + m ≤ 17592186044416) (hb8 : bytes ≤ 8) {v' : Value} {w' : World} (hrun : (Builtin.append_ #[t, t] ty #[v, .slice ad m c]).run P w = .ok v' w') : v'.ownBlock = v.ownBlock ∨ v'.ownBlock = some w.heap.size := by
  obtain ⟨i, h2, hz0, hz1, hz2⟩ := info_parts hi
  subst hm
  cases ad with
  | none =>
    obtain ⟨hn0, rfl⟩ := hnil rfl
    have hnw : news = [] := List.eq_nil_of_length_eq_zero hn0
    subst hnw
    have := run_append_owned_none (P := P) (w := w) base t ty e i 1 ht h2 v n xs hown
    have e := this.symm.trans hrun
    simp only [Result.ok.injEq] at e
    exact .inl (by rw [e.1])
  | some ad =>
    have hcells : ∀ j u, news[j]? = some u → w.cell? (ad.add j) = some u := by
      rcases hs with h | ⟨g, o, ha, _, hc⟩
      · subst h; intro j u hu; simp at hu
      · cases ha; exact vals_cells hc
    have hby : (n + news.length) * i.bytes ≤ 140737488355328 := by
      rw [hz2]
      calc (n + news.length) * bytes ≤ 17592186044416 * 8 := Nat.mul_le_mul h63 hb8
        _ ≤ _ := by omega
    rcases hown.2 with ⟨rfl, rfl⟩ | ⟨g, cap, cur, rfl, _, hg, hnc, _, hcs, _⟩
    · by_cases h0 : news.length = 0
      · have hnw : news = [] := List.eq_nil_of_length_eq_zero h0
        subst hnw
        have e : (Builtin.append_ #[t, t] ty #[.slice none 0 0, .slice (some ad) 0 c]).run P w = .ok (.slice none 0 0) w := by
          simp [Builtin.append_, run_underlying ht, sizeOf, typeInfo, h2, Builtin.lenOf, Builtin.firstCells, loadCells, loadCellsFrom]
        have e2 := e.symm.trans hrun
        simp only [Result.ok.injEq] at e2
        exact .inl (by rw [← e2.1])
      · have e := run_append_nil (P := P) w t ty e i z ht h2 hz0 ad news.length c news (by rw [hz1]; omega) hcells (by omega) (by omega) (by have := hby; rw [Nat.zero_add] at this; omega)
        have e2 := e.symm.trans hrun
        simp only [Result.ok.injEq] at e2
        exact .inr (by rw [← e2.1]; rfl)
    · by_cases hroom : n + news.length ≤ cap
      · have e := run_append_room (P := P) w t ty e i ht h2 g n cap cur hg ad news.length c news (by rw [hz1]; omega) hcells h1 hroom (by rw [hz1]; omega)
        have e2 := e.symm.trans hrun
        simp only [Result.ok.injEq] at e2
        exact .inl (by rw [← e2.1]; rfl)
      · have holds : ∀ j u, xs[j]? = some u → w.cell? ((⟨g, 0, none⟩ : Addr).add j) = some u := hown.cells (g := g) rfl
        have e := run_append_grow (P := P) w t ty e i z ht h2 hz0 ⟨g, 0, none⟩ n cap xs (by rw [hown.1, hz1]) holds ad news.length c news (by rw [hz1]; omega) hcells (by omega) (by omega) (growslice_fits (by omega) hby)
        have e2 := e.symm.trans hrun
        simp only [Result.ok.injEq] at e2
        exact .inr (by rw [← e2.1]; rfl)

theorem wpList_app {P : Program} (w : World) {ops : Array Oper} {rest : List Oper} {o : Oper} {a : Act} {Q : Exit → Act → World → Prop}
    (hg : o.guard = none) (s x : Operand) (t : TypeId) (hop : o.op = Op.call { callee := Callee.builtin Builtin.append, args := #[s, x], argTypes := #[t, t] })
    (base : Nat) (e : TypeId) (z : Value) (bytes : Nat) (ht : P.underlying t = some (.slice e)) (hi : (P.info? e).map (fun i => (i.zero, i.size, i.bytes)) = some (some z, 1, bytes))
    (hz : z.cells.size = 1) (v : Value) (n : Nat) (xs : List Value) (hs : a.eval s = v) (hown : w.ownsRow base e 1 v n xs) (ad : Option Addr) (m c : Nat) (news : List Value) (hx : a.eval x = .slice ad m c) (hm : m = news.length) (hr : Vals w ad news) (hnil : ad = none → m = 0 ∧ c = 0) (h1 : ∀ u ∈ news, u.oneCell' = true)
    (h63 : n + m ≤ 17592186044416) (hb8 : bytes ≤ 8) (hbase : base ≤ w.heap.size)
    (hK : ∀ v' w', w'.ownsRow base e 1 v' (n + m) (xs ++ news) → w.grownBy w' v.ownBlock → (v' = .slice none 0 0 ↔ v = .slice none 0 0 ∧ m = 0) → wpList P ops Q rest (a.put o.dst v') w') :
    wpList P ops Q (o :: rest) a w := by
  refine wpList_plain hg fun K hK' => ?_
  obtain ⟨v', w', hrun, r1, r2, r3⟩ := run_app (P := P) w base t o.type e z bytes ht hi hz v n xs hown ad m c news hm hr hnil h1 h63 hb8 hbase
  unfold Oper.wp
  simp [execOp, hop, resolve, invoke, builtin, hs, hx, hrun, Result.andThen]
  exact hK' _ _ (hK v' w' r1 r2 r3)

theorem wpListIn_app {F : Fence} {nF : Nat} {P : Program} (w : World) {ops : Array Oper} {rest : List Oper} {o : Oper} {a : Act} {Q : Exit → Act → World → Prop}
    (hg : o.guard = none) (s x : Operand) (t : TypeId) (hop : o.op = Op.call { callee := Callee.builtin Builtin.append, args := #[s, x], argTypes := #[t, t] })
    (base : Nat) (e : TypeId) (z : Value) (bytes : Nat) (ht : P.underlying t = some (.slice e)) (hi : (P.info? e).map (fun i => (i.zero, i.size, i.bytes)) = some (some z, 1, bytes))
    (hz : z.cells.size = 1) (v : Value) (n : Nat) (xs : List Value) (hs : a.eval s = v) (hown : w.ownsRow base e 1 v n xs) (ad : Option Addr) (m c : Nat) (news : List Value) (hx : a.eval x = .slice ad m c) (hm : m = news.length) (hr : Vals w ad news) (hnil : ad = none → m = 0 ∧ c = 0) (h1 : ∀ u ∈ news, u.oneCell' = true)
    (h63 : n + m ≤ 17592186044416) (hb8 : bytes ≤ 8) (hbase : base ≤ w.heap.size)
    (hK : ∀ v' w', w'.ownsRow base e 1 v' (n + m) (xs ++ news) → w.grownBy w' v.ownBlock → (v'.ownBlock = v.ownBlock ∨ v'.ownBlock = some w.heap.size) → wpListIn F nF P ops Q rest (a.put o.dst v') w') :
    wpListIn F nF P ops Q (o :: rest) a w := by
  refine wpListIn_plain hg fun K hK' => ?_
  obtain ⟨v', w', hrun, r1, r2, -⟩ := run_app (P := P) w base t o.type e z bytes ht hi hz v n xs hown ad m c news hm hr hnil h1 h63 hb8 hbase
  have r4 := run_app_where (P := P) w base t o.type e z bytes ht hi v n xs hown ad m c news hm hr hnil h1 h63 hb8 hrun
  unfold Oper.wpIn
  refine ⟨?_, ?_⟩
  · simp [Oper.about, hop, resolve, Target.leads, Sem.run_pure]
  · rw [Oper.semAt_plain F _ _ (by rw [hop]; intro c hc'; cases hc')]
    simp [execOp, hop, resolve, invoke, builtin, hs, hx, hrun, Result.andThen]
    exact hK' _ _ (hK v' w' r1 r2 r4)

theorem ints_one (l : List Int) : ∀ u ∈ l.map (Value.int .i64), u.oneCell' = true := by
  intro u hu; obtain ⟨x, _, rfl⟩ := List.mem_map.1 hu; rfl

/-- Behind an append: nothing below the base has turned. -/
theorem below_app {B : Nat} {w0 w w' : World} {v : Value} {base e n : Nat} {xs : List Value} (h : Below B w0 w) (hg : w.grownBy w' v.ownBlock) (hown : w.ownsRow base e 1 v n xs) (hB : B ≤ w.heap.size) (hb : B ≤ base) : Below B w0 w' :=
  h.grown hg hB fun k hk => Nat.le_trans hb (hown.lt k hk).1

/-- The string of a list of bytes. -/
def mkS (l : List UInt8) : ByteArray := ⟨l.toArray⟩
theorem mkS_data (l : List UInt8) : (mkS l).data.toList = l := rfl
theorem mkS_size (l : List UInt8) : (mkS l).size = l.length := rfl
theorem mkS_eq (s : ByteArray) (l : List UInt8) (h : s.data.toList = l) : s = mkS l := by
  subst h; rfl
theorem mkS_of (s : ByteArray) : mkS s.data.toList = s := rfl
theorem data_append (a b : ByteArray) : (a ++ b).data.toList = a.data.toList ++ b.data.toList := by simp
theorem data_extract (s : ByteArray) (a b : Nat) : (s.extract a b).data.toList = (s.data.toList.drop a).take (b - a) := Lib.extract_data s a b
theorem mkS_append (a b : List UInt8) : mkS a ++ mkS b = mkS (a ++ b) := mkS_eq _ _ (by rw [data_append, mkS_data, mkS_data])
theorem byte_mem (s : ByteArray) (k : Nat) (h : k < s.size) : s[k] ∈ s.data.toList :=
  List.mem_iff_getElem.2 ⟨k, h, rfl⟩
theorem take_succ_bytes (s : ByteArray) (k : Nat) (h : k < s.size) : s.data.toList.take (k + 1) = s.data.toList.take k ++ [s[k]] := by
  rw [List.take_succ_eq_append_getElem (show k < s.data.toList.length from h)]
  rfl
theorem take_all_bytes (s : ByteArray) (k : Nat) (h : s.size ≤ k) : s.data.toList.take k = s.data.toList :=
  List.take_of_length_le (by rw [bytes_len]; exact h)

/-- '[]byte(s)': the world behind it, and the capacity of the new row. -/
def bytesW (e : TypeId) (w : World) (s : ByteArray) : World := w.drew.alloc (.cells (bytesRow s (grownCap w s.size 0 e)) e ((bytesRow s (grownCap w s.size 0 e)).size, (bytesRow s (grownCap w s.size 0 e)).size + 1))
def bytesC (e : TypeId) (w : World) (s : ByteArray) : Nat := grownCap w s.size 0 e
theorem run_bytesW {P : Program} (src dst e : TypeId) (s : ByteArray) (hs : P.underlying src = some .string) (hd : P.underlying dst = some (.slice e)) (he : P.underlying e = some (.int .u8)) (w : World) :
    (convert src dst (.string s)).run P w = .ok (.slice (some ⟨w.heap.size, 0, none⟩) s.size (bytesC e w s)) (bytesW e w s) := run_bytes_of_string w src dst e s hs hd he
theorem bytesW_below {B : Nat} {a w : World} (e : TypeId) (s : ByteArray) (h : Below B a w) (hB : B ≤ w.heap.size) : Below B a (bytesW e w s) := h.drew.alloc hB _
theorem bytesW_size (e : TypeId) (w : World) (s : ByteArray) : (bytesW e w s).heap.size = w.heap.size + 1 := by
  show (w.heap.push _).size = _
  simp
theorem bytesW_cell (e : TypeId) (w : World) (s : ByteArray) (k : Nat) (hk : k < s.size) : (bytesW e w s).cell? ⟨w.heap.size, k, none⟩ = some (.int .u8 s[k].toNat) := by
  refine (World.cell?_alloc_mark w.drew _ e _ k).trans ?_
  unfold bytesRow
  rw [Array.getElem?_append_left (by simpa using hk)]
  simp [hk]
  rfl
end Go.Proofs.YtkmpdcckgibkhaaGreat
/-
  Rows of numbers in a block.
-/
namespace Go.Proofs.YtkmpdcckgibkhaaGreat
open Go.RowKit

/-- A row of numbers in a block. -/
def rowA (f : Nat → Int) (n : Nat) : Array Value := ((List.range n).map fun i => Value.int .i64 (f i)).toArray
theorem rowA_get (f : Nat → Int) (n j : Nat) (h : j < n) : (rowA f n)[j]? = some (.int .i64 (f j)) := by
  simp [rowA, h]
theorem rowA_set (f : Nat → Int) (n j : Nat) (x : Int) : (rowA f n).setIfInBounds j (.int .i64 x) = rowA (fun i => if i = j then x else f i) n := by
  apply Array.ext'
  rw [Array.toList_setIfInBounds]
  refine List.ext_getElem? fun i => ?_
  rw [List.getElem?_set]
  simp only [rowA, List.length_map, List.length_range, List.getElem?_map]
  by_cases h : j = i
  · subst h
    by_cases h2 : j < n
    · simp [h2]
    · simp [h2]
  · rw [if_neg h]
    by_cases h2 : i < n
    · have : ¬ i = j := fun e => h e.symm
      simp [h2, this]
    · simp [h2]
theorem rowA_made (n : Nat) : madeCells #[.int .i64 0] n = rowA (fun _ => 0) n := by
  unfold madeCells rowA
  apply Array.ext'
  simp [Nat.mod_one]
theorem rowA_congr {f g : Nat → Int} {n : Nat} (h : ∀ i, i < n → f i = g i) : rowA f n = rowA g n := by
  unfold rowA
  congr 1
  exact List.map_congr_left fun i hi => by rw [h i (List.mem_range.1 hi)]
theorem Blk.rowAt {w : World} {b : Nat} {f : Nat → Int} {n : Nat} {t : TypeId} (h : Blk w b (rowA f n) t) (j : Nat) (hj : j < n) : w.cell? ⟨b, j, none⟩ = some (.int .i64 (f j)) := (h.cell j).trans (rowA_get f n j hj)
theorem Blk.rowPut {w : World} {b : Nat} {f g : Nat → Int} {n : Nat} {t : TypeId} (h : Blk w b (rowA f n) t) (j : Nat) (x : Int) (hg : ∀ i, i < n → g i = if i = j then x else f i) : Blk (w.setCell ⟨b, j, none⟩ (.int .i64 x)) b (rowA g n) t := by
  have := h.set j (.int .i64 x)
  rw [rowA_set, ← rowA_congr hg] at this
  exact this
theorem Blk.rowInts {w : World} {b : Nat} {f : Nat → Int} {n : Nat} {t : TypeId} (h : Blk w b (rowA f n) t) : Ints w (some ⟨b, 0, none⟩) ((List.range n).map f) := by
  refine .inr ⟨b, 0, rfl, h.lt, fun i u hu => ?_⟩
  rw [Nat.zero_add, h.cell i]
  simp only [rowA, List.getElem?_toArray]
  rw [List.map_map] at hu
  exact hu

end Go.Proofs.YtkmpdcckgibkhaaGreat
/-
  Rows of truths in a block.
-/
namespace Go.Proofs.YtkmpdcckgibkhaaGreat
open Go.RowKit

/-- A row of truths in a block. -/
def rowB (f : Nat → Bool) (n : Nat) : Array Value := ((List.range n).map fun i => Value.bool (f i)).toArray
theorem rowB_get (f : Nat → Bool) (n j : Nat) (h : j < n) : (rowB f n)[j]? = some (.bool (f j)) := by
  simp [rowB, h]
theorem rowB_set (f : Nat → Bool) (n j : Nat) (x : Bool) : (rowB f n).setIfInBounds j (.bool x) = rowB (fun i => if i = j then x else f i) n := by
  apply Array.ext'
  rw [Array.toList_setIfInBounds]
  refine List.ext_getElem? fun i => ?_
  rw [List.getElem?_set]
  simp only [rowB, List.length_map, List.length_range, List.getElem?_map]
  by_cases h : j = i
  · subst h
    by_cases h2 : j < n
    · simp [h2]
    · simp [h2]
  · rw [if_neg h]
    by_cases h2 : i < n
    · have : ¬ i = j := fun e => h e.symm
      simp [h2, this]
    · simp [h2]
theorem rowB_made (n : Nat) : madeCells #[.bool false] n = rowB (fun _ => false) n := by
  unfold madeCells rowB
  apply Array.ext'
  simp [Nat.mod_one]
theorem rowB_congr {f g : Nat → Bool} {n : Nat} (h : ∀ i, i < n → f i = g i) : rowB f n = rowB g n := by
  unfold rowB
  congr 1
  exact List.map_congr_left fun i hi => by rw [h i (List.mem_range.1 hi)]
theorem Blk.rowBt {w : World} {b : Nat} {f : Nat → Bool} {n : Nat} {t : TypeId} (h : Blk w b (rowB f n) t) (j : Nat) (hj : j < n) : w.cell? ⟨b, j, none⟩ = some (.bool (f j)) := (h.cell j).trans (rowB_get f n j hj)
theorem Blk.rowPutB {w : World} {b : Nat} {f g : Nat → Bool} {n : Nat} {t : TypeId} (h : Blk w b (rowB f n) t) (j : Nat) (x : Bool) (hg : ∀ i, i < n → g i = if i = j then x else f i) : Blk (w.setCell ⟨b, j, none⟩ (.bool x)) b (rowB g n) t := by
  have := h.set j (.bool x)
  rw [rowB_set, ← rowB_congr hg] at this
  exact this
end Go.Proofs.YtkmpdcckgibkhaaGreat
/-
  Append to a row of parts of any size; where the row lies afterwards.
-/
namespace Go.Proofs.YtkmpdcckgibkhaaGreat
open Go.RowKit

/-- 'append(v, xs...)' for parts of 'size' cells: v is nil or the call's own; xs lies at an address. -/
theorem run_appN {P : Program} (w : World) (base : Nat) (t ty e : TypeId) (z : Value) (size bytes : Nat) (ht : P.underlying t = some (.slice e)) (hi : (P.info? e).map (fun i => (i.zero, i.size, i.bytes)) = some (some z, size, bytes))
    (hz : z.cells.size = size) (hsz : 0 < size) (v : Value) (n : Nat) (xs : List Value) (hown : w.ownsRow base e size v n xs) (ad : Addr) (m c : Nat) (news : List Value) (hm : news.length = m * size) (hcells : ∀ j u, news[j]? = some u → w.cell? (ad.add j) = some u) (h1 : ∀ u ∈ news, u.oneCell' = true)
    (h63 : n + m ≤ 1000000000) (hb8 : bytes ≤ 128) (hbase : base ≤ w.heap.size) (hm0 : 0 < m) :
    ∃ v' w', (Builtin.append_ #[t, t] ty #[v, .slice (some ad) m c]).run P w = .ok v' w' ∧ w'.ownsRow base e size v' (n + m) (xs ++ news) ∧ w.grownBy w' v.ownBlock ∧ (v'.ownBlock = v.ownBlock ∨ v'.ownBlock = some w.heap.size) := by
  obtain ⟨i, h2, hz0, hz1, hz2⟩ : ∃ i, P.info? e = some i ∧ i.zero = some z ∧ i.size = size ∧ i.bytes = bytes := by
    cases h : P.info? e with
    | none => rw [h] at hi; cases hi
    | some i => rw [h] at hi; simp at hi; exact ⟨i, rfl, hi.1, hi.2.1, hi.2.2⟩
  have hbb : (n + m) * bytes ≤ 140737488355328 := by
    calc (n + m) * bytes ≤ 1000000000 * 128 := Nat.mul_le_mul h63 hb8
      _ ≤ _ := by omega
  obtain ⟨v', w', hrun, r1, r2, -⟩ := run_append_own (P := P) w base t ty e i z size bytes ht h2 hz0 hz1 hz2 hz hsz v n xs hown ad m c news hm hcells h1 (by unfold maxLen; omega) hbb hbase
  refine ⟨v', w', hrun, r1, r2, ?_⟩
  have hby : (n + m) * i.bytes ≤ 140737488355328 := by rw [hz2]; exact hbb
  rcases hown.2 with ⟨rfl, rfl⟩ | ⟨g, cap, cur, rfl, _, hg, hnc, _, hcs, _⟩
  · have e := run_append_nil (P := P) w t ty e i z ht h2 hz0 ad m c news (by rw [hz1]; omega) hcells (by omega) (by omega) (by have := hby; rw [Nat.zero_add] at this; omega)
    have e2 := e.symm.trans hrun
    simp only [Result.ok.injEq] at e2
    exact .inr (by rw [← e2.1]; rfl)
  · by_cases hroom : n + m ≤ cap
    · have e := run_append_room (P := P) w t ty e i ht h2 g n cap cur hg ad m c news (by rw [hz1]; omega) hcells h1 hroom (by rw [hz1, hm, ← Nat.add_mul, hcs]; exact Nat.mul_le_mul_right _ hroom)
      have e2 := e.symm.trans hrun
      simp only [Result.ok.injEq] at e2
      exact .inl (by rw [← e2.1]; rfl)
    · have holds : ∀ j u, xs[j]? = some u → w.cell? ((⟨g, 0, none⟩ : Addr).add j) = some u := hown.cells (g := g) rfl
      have e := run_append_grow (P := P) w t ty e i z ht h2 hz0 ⟨g, 0, none⟩ n cap xs (by rw [hown.1, hz1]) holds ad m c news (by rw [hz1]; omega) hcells (by omega) (by omega) (growslice_fits (by omega) hby)
      have e2 := e.symm.trans hrun
      simp only [Result.ok.injEq] at e2
      exact .inr (by rw [← e2.1]; rfl)

theorem wpList_appN {P : Program} (w : World) {ops : Array Oper} {rest : List Oper} {o : Oper} {a : Act} {Q : Exit → Act → World → Prop}
    (hg : o.guard = none) (s x : Operand) (t : TypeId) (hop : o.op = Op.call { callee := Callee.builtin Builtin.append, args := #[s, x], argTypes := #[t, t] })
    (base : Nat) (e : TypeId) (z : Value) (size bytes : Nat) (ht : P.underlying t = some (.slice e)) (hi : (P.info? e).map (fun i => (i.zero, i.size, i.bytes)) = some (some z, size, bytes))
    (hz : z.cells.size = size) (hsz : 0 < size) (v : Value) (n : Nat) (xs : List Value) (hs : a.eval s = v) (hown : w.ownsRow base e size v n xs) (ad : Addr) (m c : Nat) (news : List Value) (hx : a.eval x = .slice (some ad) m c) (hm : news.length = m * size) (hcells : ∀ j u, news[j]? = some u → w.cell? (ad.add j) = some u) (h1 : ∀ u ∈ news, u.oneCell' = true)
    (h63 : n + m ≤ 1000000000) (hb8 : bytes ≤ 128) (hbase : base ≤ w.heap.size) (hm0 : 0 < m)
    (hK : ∀ v' w', w'.ownsRow base e size v' (n + m) (xs ++ news) → w.grownBy w' v.ownBlock → (v'.ownBlock = v.ownBlock ∨ v'.ownBlock = some w.heap.size) → wpList P ops Q rest (a.put o.dst v') w') :
    wpList P ops Q (o :: rest) a w := by
  refine wpList_plain hg fun K hK' => ?_
  obtain ⟨v', w', hrun, r1, r2, r3⟩ := run_appN (P := P) w base t o.type e z size bytes ht hi hz hsz v n xs hown ad m c news hm hcells h1 h63 hb8 hbase hm0
  unfold Oper.wp
  simp [execOp, hop, resolve, invoke, builtin, hs, hx, hrun, Result.andThen]
  exact hK' _ _ (hK v' w' r1 r2 r3)
end Go.Proofs.YtkmpdcckgibkhaaGreat
/-
  Bytes that are appended one by one, and made a string.
-/
namespace Go.Proofs.YtkmpdcckgibkhaaGreat
open Go.RowKit

def u8v (c : UInt8) : Value := .int .u8 (c.toNat : Int)
theorem u8v_one (l : List UInt8) : ∀ u ∈ l.map u8v, u.oneCell' = true := by
  intro u hu; obtain ⟨x, _, rfl⟩ := List.mem_map.1 hu; rfl
theorem ownsRow_low {B base : Nat} {e : TypeId} {k : Nat} {v : Value} {n : Nat} {xs : List Value} {w w' : World} (h : w.ownsRow base e k v n xs) (hb : Below B w w') (hB : w.heap.size ≤ B) : w'.ownsRow base e k v n xs :=
  ⟨h.1, h.2.imp id fun ⟨g, cap, cur, e1, e2, e3, r⟩ => ⟨g, cap, cur, e1, e2, (hb.block g (Nat.lt_of_lt_of_le (lt_of_block e3) hB)).trans e3, r⟩⟩

theorem ret_str {a b : ByteArray} (h : a = b) : Ending.returned (.string a) = .returned (.string b) := by rw [h]
theorem modtwo (n : Nat) : Int.tmod (n : Int) 2 = ((n % 2 : Nat) : Int) := by
  rw [Int.tmod_eq_emod_of_nonneg (by omega)]; omega

theorem wpList_app2 {P : Program} (w : World) {ops : Array Oper} {rest : List Oper} {o : Oper} {a : Act} {Q : Exit → Act → World → Prop}
    (hg : o.guard = none) (s x : Operand) (t : TypeId) (hop : o.op = Op.call { callee := Callee.builtin Builtin.append, args := #[s, x], argTypes := #[t, t] })
    (base : Nat) (e : TypeId) (z : Value) (bytes : Nat) (ht : P.underlying t = some (.slice e)) (hi : (P.info? e).map (fun i => (i.zero, i.size, i.bytes)) = some (some z, 1, bytes))
    (hz : z.cells.size = 1) (v : Value) (n : Nat) (xs : List Value) (hs : a.eval s = v) (hown : w.ownsRow base e 1 v n xs) (ad : Option Addr) (m c : Nat) (news : List Value) (hx : a.eval x = .slice ad m c) (hm : m = news.length) (hr : Vals w ad news) (hnil : ad = none → m = 0 ∧ c = 0) (h1 : ∀ u ∈ news, u.oneCell' = true)
    (h63 : n + m ≤ 17592186044416) (hb8 : bytes ≤ 8) (hbase : base ≤ w.heap.size)
    (hK : ∀ v' w', w'.ownsRow base e 1 v' (n + m) (xs ++ news) → w.grownBy w' v.ownBlock → (v'.ownBlock = v.ownBlock ∨ v'.ownBlock = some w.heap.size) → wpList P ops Q rest (a.put o.dst v') w') :
    wpList P ops Q (o :: rest) a w := by
  refine wpList_plain hg fun K hK' => ?_
  obtain ⟨v', w', hrun, r1, r2, -⟩ := run_app (P := P) w base t o.type e z bytes ht hi hz v n xs hown ad m c news hm hr hnil h1 h63 hb8 hbase
  have r3 := run_app_where (P := P) w base t o.type e z bytes ht hi v n xs hown ad m c news hm hr hnil h1 h63 hb8 hrun
  unfold Oper.wp
  simp [execOp, hop, resolve, invoke, builtin, hs, hx, hrun, Result.andThen]
  exact hK' _ _ (hK v' w' r1 r2 r3)

/-- 'string(b)'. -/
theorem run_strB {P : Program} (src dst e : TypeId) (hs : P.underlying src = some (.slice e)) (he : P.underlying e = some (.int .u8)) (hd : P.underlying dst = some .string)
    (w : World) (a : Option Addr) (c : Nat) (l : List UInt8) (h : Vals w a (l.map u8v)) (hn : a = none → l = []) : (convert src dst (.slice a l.length c)).run P w = .ok (.string (mkS l)) w := by
  cases a with
  | none =>
    obtain rfl := hn rfl
    show (convert src dst (.slice none 0 c)).run P w = _
    rw [run_convert_bytes_string w src dst e none 0 c hs he hd]
    rfl
  | some ad =>
    refine run_convert_bytes_back w src dst e ad c l hs he hd ?_
    rcases h with h | ⟨g, o, ha, _, hc⟩
    · have : l = [] := by simpa using h
      subst this; intro j hj; simp at hj
    · cases ha
      intro j hj
      have := vals_cells hc j (u8v l[j]) (by rw [List.getElem?_map, List.getElem?_eq_getElem hj]; rfl)
      exact this

end Go.Proofs.YtkmpdcckgibkhaaGreat
/-
  Maps in memory that the call itself made, read as lists of keys and values in the order of their laying. No program.
-/
namespace Go.Proofs.YtkmpdcckgibkhaaGreat
open Go.RowKit Go.ChangeMaps

/-- The entries of a map, numbered from i on. -/
def ents {α : Type} (enc : α → Value) : List (α × Value) → Nat → List MapEntry
  | [], _ => []
  | (a, v) :: r, i => { key := enc a, val := v, born := i } :: ents enc r (i + 1)
/-- Where a key stands, and its value. -/
def fnd {α : Type} [DecidableEq α] (a : α) : List (α × Value) → Nat → Option (Nat × Value)
  | [], _ => none
  | (b, v) :: r, i => if a = b then some (i, v) else fnd a r (i + 1)
def get {α : Type} [DecidableEq α] (a : α) (l : List (α × Value)) : Option Value := (fnd a l 0).map (·.2)
/-- A value laid at a key. -/
def put {α : Type} [DecidableEq α] (a : α) (u : Value) : List (α × Value) → List (α × Value)
  | [] => [(a, u)]
  | (b, v) :: r => if a = b then (b, u) :: r else (b, v) :: put a u r

structure KT (P : Program) (kt : TypeId) {α : Type} [DecidableEq α] (enc : α → Value) : Prop where
  check : ∀ (em : Bool) (a : α) (w : World), (Instr.checkKey em 10000 kt (enc a)).run P w = .ok () w
  find : ∀ (a : α) (l : List (α × Value)) (w : World), (Instr.findKey kt (enc a) (ents enc l 0)).run P w = .ok (fnd a l 0) w
  same : ∀ a : α, Instr.sameBits 10000 (enc a) (enc a) = true

variable {α : Type} {P : Program} {kt t e : TypeId} {enc : α → Value} {w : World} {b : Nat} {l : List (α × Value)}

theorem find_asking [DecidableEq α] (heq : ∀ (a b : α) (w : World), (Op.equal kt (enc a) (enc b)).run P w = .ok (decide (a = b)) w) (a : α) (w : World) : ∀ (l : List (α × Value)) (i : Nat), (Instr.findAsking kt (enc a) (ents enc l i) i).run P w = .ok (fnd a l i) w := by
  intro l
  induction l with
  | nil => intro i; simp [ents, fnd, Instr.findAsking, Sem.run_pure]
  | cons p r ih =>
    intro i
    obtain ⟨b, v⟩ := p
    simp only [ents, fnd, Instr.findAsking, Sem.run_bind, heq, Result.andThen]
    by_cases h : a = b
    · simp [h, Sem.run_pure]
    · simp [h, ih]
theorem KT.wide [DecidableEq α] (hu : (match P.underlying kt with | some (.array _ _) | some (.struct _) => true | _ => false) = true)
    (heq : ∀ (a b : α) (w : World), (Op.equal kt (enc a) (enc b)).run P w = .ok (decide (a = b)) w)
    (hc : ∀ (em : Bool) (a : α) (w : World), (Instr.checkKey em 10000 kt (enc a)).run P w = .ok () w) (hs : ∀ a : α, Instr.sameBits 10000 (enc a) (enc a) = true) : KT P kt enc where
  check := hc
  find a l w := by rw [run_findKey_eq w hu]; exact find_asking heq a w l 0
  same := hs

/-- A block is a map that reads as a list. -/
def MapIs (enc : α → Value) (w : World) (b : Nat) (l : List (α × Value)) : Prop := w.heap[b]? = some (.map (ents enc l 0).toArray l.length)

theorem ents_len : ∀ (l : List (α × Value)) (i : Nat), (ents enc l i).length = l.length := by
  intro l
  induction l with
  | nil => intro i; rfl
  | cons p r ih => intro i; obtain ⟨a, v⟩ := p; simp [ents, ih]
theorem MapIs.lt (h : MapIs enc w b l) : b < w.heap.size := by
  rcases Nat.lt_or_ge b w.heap.size with h' | h'
  · exact h'
  · unfold MapIs at h; rw [Array.getElem?_eq_none h'] at h; cases h
theorem MapIs.made (w : World) : MapIs enc (w.alloc (.map #[] 0)) w.heap.size [] := by
  show (w.heap.push _)[w.heap.size]? = _
  simp [ents]
theorem MapIs.below {B : Nat} {w' : World} (h : MapIs enc w b l) (hb : Below B w w') (hB : b < B) : MapIs enc w' b l := (hb.block b hB).trans h
theorem MapIs.alloc (h : MapIs enc w b l) (o : Obj) : MapIs enc (w.alloc o) b l := (Below.heap_alloc w o b h.lt).trans h
theorem MapIs.drew (h : MapIs enc w b l) : MapIs enc w.drew b l := h
theorem MapIs.setCell (h : MapIs enc w b l) (p : Addr) (hp : b ≠ p.block) (u : Value) : MapIs enc (w.setCell p u) b l := (Below.heap_setCell w p u b hp).trans h

theorem MapIs.look [DecidableEq α] (h : MapIs enc w b l) (K : KT P kt enc) (ht : P.underlying t = some (.map kt e)) {z : Value} (hz : (zeroValue e).run P w = .ok z w) (a : α) (c : Bool) :
    (Instr.lookup t (.map (some b)) (enc a) c).run P w = .ok (if c then .tuple #[(get a l).getD z, .bool (get a l).isSome] else (get a l).getD z) w := by
  unfold MapIs at h
  simp only [Instr.lookup, Sem.run_bind, run_underlying ht, Result.andThen, getObj, Sem.run, h, K.check, get]
  cases hf : fnd a l 0 with
  | none => cases c <;> simp [K.find, hf, hz, Result.andThen, Sem.run_pure]
  | some p => cases c <;> simp [K.find, hf, Sem.run_pure]

theorem ents_fnd_none [DecidableEq α] (a : α) : ∀ (l : List (α × Value)) (i : Nat), fnd a l i = none → ∀ u, put a u l = l ++ [(a, u)] := by
  intro l
  induction l with
  | nil => intro i _ u; rfl
  | cons p r ih =>
    intro i h u
    obtain ⟨b, v⟩ := p
    simp only [fnd] at h
    by_cases e : a = b
    · rw [if_pos e] at h; cases h
    · rw [if_neg e] at h; simp only [put]; rw [if_neg e, ih _ h]; rfl
theorem ents_append : ∀ (l m : List (α × Value)) (i : Nat), ents enc (l ++ m) i = ents enc l i ++ ents enc m (i + l.length) := by
  intro l
  induction l with
  | nil => intro m i; rfl
  | cons p r ih => intro m i; obtain ⟨a, v⟩ := p; simp only [List.cons_append, ents, ih, List.length_cons]; congr 3; omega
theorem fnd_some [DecidableEq α] (a : α) : ∀ (l : List (α × Value)) (i j : Nat) (v : Value), fnd a l i = some (j, v) → ∃ k, j = i + k ∧ k < l.length ∧ (ents enc l i)[k]? = some { key := enc a, val := v, born := i + k } ∧ l[k]? = some (a, v) ∧ ∀ u, put a u l = l.set k (a, u) := by
  intro l
  induction l with
  | nil => intro i j v h; cases h
  | cons p r ih =>
    intro i j v h
    obtain ⟨b, x⟩ := p
    simp only [fnd] at h
    by_cases e : a = b
    · rw [if_pos e] at h
      cases h; subst e
      exact ⟨0, rfl, by simp, by simp [ents], rfl, fun u => by simp [put]⟩
    · rw [if_neg e] at h
      obtain ⟨k, h1, h2, h3, h4, h5⟩ := ih _ _ _ h
      refine ⟨k + 1, by omega, by simpa using h2, ?_, by simpa using h4, fun u => ?_⟩
      · simp only [ents, List.getElem?_cons_succ]; rw [h3, show i + 1 + k = i + (k + 1) by omega]
      · simp only [put]; rw [if_neg e, h5]; rfl
theorem ents_set (a : α) (u : Value) : ∀ (l : List (α × Value)) (i k : Nat) (v : Value), l[k]? = some (a, v) → ents enc (l.set k (a, u)) i = (ents enc l i).set k { key := enc a, val := u, born := i + k } := by
  intro l
  induction l with
  | nil => intro i k v h; simp at h
  | cons p r ih =>
    intro i k v h
    obtain ⟨b, x⟩ := p
    cases k with
    | zero => simp at h; simp [ents]
    | succ k =>
      simp only [List.set_cons_succ, ents]
      rw [ih (i + 1) k v (by simpa using h), show i + 1 + k = i + (k + 1) by omega]
theorem put_len [DecidableEq α] (a : α) (u : Value) : ∀ l : List (α × Value), (put a u l).length = if (fnd a l 0).isSome then l.length else l.length + 1 := by
  intro l
  cases h : fnd a l 0 with
  | none => rw [ents_fnd_none a l 0 h]; simp
  | some p => obtain ⟨k, -, -, -, -, h5⟩ := fnd_some (enc := fun _ => .nilFunc) a l 0 p.1 p.2 h; rw [h5]; simp

/-- 'm[k] = v'. -/
theorem MapIs.store [DecidableEq α] (h : MapIs enc w b l) (K : KT P kt enc) (ht : P.underlying t = some (.map kt e)) (a : α) (u : Value) :
    ∃ w', (Instr.mapUpdate t (.map (some b)) (enc a) u).run P w = .ok () w' ∧ MapIs enc w' b (put a u l) ∧ (∃ o, w' = setBlock w b o) := by
  unfold MapIs at h
  have hlt : b < w.heap.size := MapIs.lt (enc := enc) (l := l) h
  have hset : ∀ o, (setObj b o).run P w = .ok () (setBlock w b o) := fun o => by simp [setObj, Sem.run, h, setBlock]
  have hrd : ∀ o, (setBlock w b o).heap[b]? = some o := fun o => by simp [setBlock, hlt]
  cases hf : fnd a l 0 with
  | none =>
    refine ⟨setBlock w b (.map (((ents enc l 0).toArray).push { key := enc a, val := u, born := l.length }) (l.length + 1)), ?_, ?_, ⟨_, rfl⟩⟩
    · simp only [Instr.mapUpdate, Sem.run_bind, run_underlying ht, Result.andThen, getObj, Sem.run, h, K.check, K.find, hf, hset]
    · unfold MapIs
      rw [hrd, ents_fnd_none a l 0 hf, ents_append]
      simp [ents]
  | some p =>
    obtain ⟨j, v⟩ := p
    obtain ⟨k, hj, hk, h3, h4, h5⟩ := fnd_some (enc := enc) a l 0 j v hf
    rw [Nat.zero_add] at hj
    subst hj
    have hes : (ents enc l 0).toArray[j]? = some { key := enc a, val := v, born := 0 + j } := by rw [List.getElem?_toArray]; exact h3
    refine ⟨setBlock w b (.map (((ents enc l 0).toArray).modify j fun e => { e with key := enc a, val := u }) l.length), ?_, ?_, ⟨_, rfl⟩⟩
    · simp only [Instr.mapUpdate, Sem.run_bind, run_underlying ht, Result.andThen, getObj, Sem.run, h, K.check, K.find, hf, hes, Option.map_some, Option.getD_some, Instr.keyThatStays, K.same, if_true, Sem.run_pure, hset]
    · unfold MapIs
      rw [hrd, h5, ents_set a u l 0 j v h4, List.length_set]
      congr 2
      apply Array.ext'
      rw [Array.toList_modify]
      refine List.ext_getElem? fun i => ?_
      rw [List.getElem?_modify, List.getElem?_set]
      by_cases hij : j = i
      · subst hij
        have hjl : j < (ents enc l 0).length := by rw [ents_len]; exact hk
        simp only [if_true, h3, hjl, Nat.zero_add]; rfl
      · simp only [if_neg hij]; cases (ents enc l 0)[i]? <;> rfl
theorem ents_findIdx : ∀ (l : List (α × Value)) (i k : Nat), k < l.length → (ents enc l i).findIdx? (fun e => (e.born : Int) == ((i + k : Nat) : Int)) = some k := by
  intro l
  induction l with
  | nil => intro i k h; simp at h
  | cons p r ih =>
    intro i k h
    obtain ⟨b, v⟩ := p
    cases k with
    | zero => simp [ents, List.findIdx?_cons]
    | succ k =>
      have h2 := ih (i + 1) k (by simpa using h)
      rw [show i + 1 + k = i + (k + 1) by omega] at h2
      have hne : (((i : Nat) : Int) == ((i + (k + 1) : Nat) : Int)) = false := by rw [beq_eq_false_iff_ne]; omega
      simp only [ents, List.findIdx?_cons, hne, h2]
      rfl
theorem fnd_append_new [DecidableEq α] (a : α) (u : Value) : ∀ (l : List (α × Value)) (i : Nat), fnd a l i = none → fnd a (l ++ [(a, u)]) i = some (i + l.length, u) := by
  intro l
  induction l with
  | nil => intro i _; simp [fnd]
  | cons p r ih =>
    intro i h
    obtain ⟨b, v⟩ := p
    simp only [fnd] at h
    by_cases e : a = b
    · rw [if_pos e] at h; cases h
    · rw [if_neg e] at h
      simp only [List.cons_append, fnd]
      rw [if_neg e, ih _ h]
      simp only [List.length_cons]
      congr 2; omega
/-- The two halves of 'm[k] += v'. -/
theorem MapIs.bump [DecidableEq α] (h : MapIs enc w b l) (K : KT P kt enc) (ht : P.underlying t = some (.map kt e)) {z : Value} (hz : ∀ w, (zeroValue e).run P w = .ok z w) (a : α) :
    ∃ w1 stamp l1, (Instr.mapEntry t (.map (some b)) (enc a)).run P w = .ok (.tuple #[(get a l).getD z, .int .i64 stamp]) w1 ∧ (∃ o, w1 = setBlock w b o) ∧ MapIs enc w1 b l1 ∧ get a l1 = some ((get a l).getD z) ∧
      ∀ u, ∃ w2, (Instr.entryStore t (.map (some b)) (.int .i64 stamp) u).run P w1 = .ok () w2 ∧ MapIs enc w2 b (put a u l) ∧ (∃ o, w2 = setBlock w1 b o) := by
  unfold MapIs at h
  have hlt : b < w.heap.size := MapIs.lt (enc := enc) (l := l) h
  have hset : ∀ o, (setObj b o).run P w = .ok () (setBlock w b o) := fun o => by simp [setObj, Sem.run, h, setBlock]
  have hrd : ∀ (w : World) (o : Obj), b < w.heap.size → (setBlock w b o).heap[b]? = some o := fun w o hlt => by simp [setBlock, hlt]
  have hstore : ∀ (w1 : World) (l1 : List (α × Value)) (k : Nat) (v : Value) (u : Value), w1.heap[b]? = some (.map (ents enc l1 0).toArray l1.length) → k < l1.length → l1[k]? = some (a, v) →
      ∃ w2, (Instr.entryStore t (.map (some b)) (.int .i64 (k : Int)) u).run P w1 = .ok () w2 ∧ MapIs enc w2 b (l1.set k (a, u)) ∧ (∃ o, w2 = setBlock w1 b o) := by
    intro w1 l1 k v u h1 hk hl1
    have hset1 : ∀ o, (setObj b o).run P w1 = .ok () (setBlock w1 b o) := fun o => by simp [setObj, Sem.run, h1, setBlock]
    have hlt1 : b < w1.heap.size := MapIs.lt (enc := enc) (l := l1) h1
    have hfi := ents_findIdx (enc := enc) l1 0 k hk
    rw [Nat.zero_add] at hfi
    refine ⟨setBlock w1 b (.map (((ents enc l1 0).toArray).modify k fun e => { e with val := u }) l1.length), ?_, ?_, ⟨_, rfl⟩⟩
    · have hfa : (ents enc l1 0).toArray.findIdx? (fun e => (e.born : Int) == (k : Int)) = some k := by rw [List.findIdx?_toArray]; exact hfi
      have hai : ∀ w, (asInt (.int .i64 (k : Int))).run P w = .ok (k : Int) w := fun w => rfl
      simp only [Instr.entryStore, Sem.run_bind, getObj, Sem.run, h1, Result.andThen, hai, hfa, hset1]
    · unfold MapIs
      rw [hrd _ _ hlt1, ents_set a u l1 0 k v hl1, List.length_set]
      congr 2
      apply Array.ext'
      rw [Array.toList_modify]
      refine List.ext_getElem? fun i => ?_
      rw [List.getElem?_modify, List.getElem?_set]
      have hkl : k < (ents enc l1 0).length := by rw [ents_len]; exact hk
      have hek : (ents enc l1 0)[k]? = some { key := enc a, val := v, born := 0 + k } := by
        have : ∀ (l : List (α × Value)) (i k : Nat), l[k]? = some (a, v) → (ents enc l i)[k]? = some { key := enc a, val := v, born := i + k } := by
          intro l
          induction l with
          | nil => intro i k h; simp at h
          | cons p r ih =>
            intro i k h
            obtain ⟨b, x⟩ := p
            cases k with
            | zero => simp at h; simp [ents, h]
            | succ k => simp only [ents, List.getElem?_cons_succ]; rw [ih (i + 1) k (by simpa using h), show i + 1 + k = i + (k + 1) by omega]
        exact this l1 0 k hl1
      by_cases hij : k = i
      · subst hij
        simp only [if_true, hek, hkl, Nat.zero_add]; rfl
      · simp only [if_neg hij]; cases (ents enc l1 0)[i]? <;> rfl
  cases hf : fnd a l 0 with
  | none =>
    have hg : (get a l).getD z = z := by simp [get, hf]
    have hw1 : (setBlock w b (.map (((ents enc l 0).toArray).push { key := enc a, val := z, born := l.length }) (l.length + 1))).heap[b]? = some (.map (ents enc (l ++ [(a, z)]) 0).toArray (l ++ [(a, z)]).length) := by
      rw [hrd _ _ hlt, ents_append]; simp [ents]
    refine ⟨setBlock w b (.map (((ents enc l 0).toArray).push { key := enc a, val := z, born := l.length }) (l.length + 1)), (l.length : Int), l ++ [(a, z)], ?_, ⟨_, rfl⟩, hw1, ?_, ?_⟩
    · simp only [Instr.mapEntry, Sem.run_bind, run_underlying ht, Result.andThen, getObj, Sem.run, h, K.check, K.find, hf, hz, hset, hg, Sem.run_pure]; rfl
    · rw [hg]; unfold get; rw [fnd_append_new a z l 0 hf]; rfl
    · intro u
      obtain ⟨w2, h1, h2, h3⟩ := hstore _ (l ++ [(a, z)]) l.length z u hw1 (by simp) (by simp)
      refine ⟨w2, h1, ?_, h3⟩
      rw [ents_fnd_none a l 0 hf]
      simpa using h2
  | some p =>
    obtain ⟨j, v⟩ := p
    obtain ⟨k, hj, hk, h3, h4, h5⟩ := fnd_some (enc := enc) a l 0 j v hf
    rw [Nat.zero_add] at hj
    subst hj
    have hg : (get a l).getD z = v := by simp [get, hf]
    have hes : (ents enc l 0).toArray[j]? = some { key := enc a, val := v, born := 0 + j } := by rw [List.getElem?_toArray]; exact h3
    have hmod : ((ents enc l 0).toArray).modify j (fun e => { e with key := enc a }) = (ents enc l 0).toArray := by
      apply Array.ext'
      rw [Array.toList_modify]
      refine List.ext_getElem? fun i => ?_
      rw [List.getElem?_modify]
      by_cases hij : j = i
      · subst hij; simp only [if_true]; rw [show ((ents enc l 0).toArray.toList)[j]? = some { key := enc a, val := v, born := 0 + j } from h3]; rfl
      · simp only [if_neg hij]; cases ((ents enc l 0).toArray.toList)[i]? <;> rfl
    have hw1 : (setBlock w b (.map (ents enc l 0).toArray l.length)).heap[b]? = some (.map (ents enc l 0).toArray l.length) := hrd _ _ hlt
    refine ⟨setBlock w b (.map (ents enc l 0).toArray l.length), (j : Int), l, ?_, ⟨_, rfl⟩, hw1, ?_, ?_⟩
    · simp only [Instr.mapEntry, Sem.run_bind, run_underlying ht, Result.andThen, getObj, Sem.run, h, K.check, K.find, hf, hes, Option.map_some, Option.getD_some, Instr.keyThatStays, K.same, if_true, Sem.run_pure, hset, hmod, hg]
      simp [goInt]
    · rw [hg]; simp [get, hf]
    · intro u
      obtain ⟨w2, h1, h2, h3'⟩ := hstore _ l j v u hw1 hk h4
      exact ⟨w2, h1, by rw [h5]; exact h2, h3'⟩
theorem setBlock_below {B : Nat} {w0 : World} (h : Below B w0 w) (hb : B ≤ b) (o : Obj) : Below B w0 (setBlock w b o) := by
  refine h.trans ⟨rfl, rfl, rfl, by simp [setBlock], fun k hk => ?_⟩
  simp only [setBlock]
  rw [Array.getElem?_setIfInBounds_ne (by omega)]
theorem setBlock_other {w : World} (k : Nat) (hk : k ≠ b) (o : Obj) : (setBlock w b o).heap[k]? = w.heap[k]? := by
  simp only [setBlock]
  rw [Array.getElem?_setIfInBounds_ne (by omega)]

/-! ### Ranging over a map that is not written meanwhile -/
def IterAt (w : World) (r b n : Nat) (seen : Array Nat) : Prop := w.heap[r]? = some (.mapIter (some b) n seen n)
theorem IterAt.lt {r n : Nat} {seen : Array Nat} (h : IterAt w r b n seen) : r < w.heap.size := by
  rcases Nat.lt_or_ge r w.heap.size with h' | h'
  · exact h'
  · unfold IterAt at h; rw [Array.getElem?_eq_none h'] at h; cases h
theorem IterAt.below {B r n : Nat} {seen : Array Nat} {w' : World} (h : IterAt w r b n seen) (hb : Below B w w') (hB : r < B) : IterAt w' r b n seen := (hb.block r hB).trans h
theorem IterAt.other {r n : Nat} {seen : Array Nat} (h : IterAt w r b n seen) {k : Nat} (hk : r ≠ k) (o : Obj) : IterAt (setBlock w k o) r b n seen := (setBlock_other r hk o).trans h
theorem IterAt.alloc {r n : Nat} {seen : Array Nat} (h : IterAt w r b n seen) (o : Obj) : IterAt (w.alloc o) r b n seen := (Below.heap_alloc w o r h.lt).trans h
theorem MapIs.other (h : MapIs enc w b l) {k : Nat} (hk : b ≠ k) (o : Obj) : MapIs enc (setBlock w k o) b l := (setBlock_other b hk o).trans h

theorem MapIs.range (h : MapIs enc w b l) (ht : P.underlying t = some (.map kt e)) :
    (Instr.range t (.map (some b))).run P w = .ok (.pointer (some ⟨w.heap.size, 0, none⟩)) (w.alloc (.mapIter (some b) l.length #[] l.length)) := by
  unfold MapIs at h
  simp [Instr.range, Sem.run_bind, run_underlying ht, Result.andThen, getObj, Sem.run, h, newObj]
theorem IterAt.made (w : World) (b n : Nat) : IterAt (w.alloc (.mapIter (some b) n #[] n)) w.heap.size b n #[] := by
  show (w.heap.push _)[w.heap.size]? = _
  simp
theorem ents_mem : ∀ (l : List (α × Value)) (i : Nat) (x : MapEntry), x ∈ ents enc l i → ∃ k a v, k < l.length ∧ l[k]? = some (a, v) ∧ x = { key := enc a, val := v, born := i + k } := by
  intro l
  induction l with
  | nil => intro i x h; simp [ents] at h
  | cons p r ih =>
    intro i x h
    obtain ⟨b, v⟩ := p
    simp only [ents, List.mem_cons] at h
    rcases h with rfl | h
    · exact ⟨0, b, v, by simp, rfl, rfl⟩
    · obtain ⟨k, a, u, h1, h2, h3⟩ := ih _ _ h
      exact ⟨k + 1, a, u, by simpa using h1, by simpa using h2, by rw [h3, show i + 1 + k = i + (k + 1) by omega]⟩
theorem ents_at : ∀ (l : List (α × Value)) (i k : Nat) (a : α) (v : Value), l[k]? = some (a, v) → { key := enc a, val := v, born := i + k } ∈ ents enc l i := by
  intro l
  induction l with
  | nil => intro i k a v h; simp at h
  | cons p r ih =>
    intro i k a v h
    obtain ⟨b, x⟩ := p
    cases k with
    | zero => simp at h; simp [ents, h]
    | succ k =>
      have := ih (i + 1) k a v (by simpa using h)
      rw [show i + 1 + k = i + (k + 1) by omega] at this
      simp only [ents, List.mem_cons]
      exact .inr this
theorem ents_born : ∀ (l : List (α × Value)) (i : Nat), (ents enc l i).map (·.born) = List.range' i l.length := by
  intro l
  induction l with
  | nil => intro i; rfl
  | cons p r ih => intro i; obtain ⟨a, v⟩ := p; simp [ents, ih, List.range'_succ]
theorem MapIs.next {r : Nat} {seen : Array Nat} (h : MapIs enc w b l) (hr : IterAt w r b l.length seen) (ty : TypeId) :
    ((∀ k, k < l.length → k ∈ seen.toList) ∧ (Instr.next (.pointer (some ⟨r, 0, none⟩)) false ty).run P w = .ok (.tuple #[.bool false]) w) ∨
    ∃ k a v w1, k < l.length ∧ k ∉ seen.toList ∧ l[k]? = some (a, v) ∧ (∃ w0, (w0 = w ∨ w0 = w.drew) ∧ w1 = setBlock w0 r (.mapIter (some b) l.length (seen.push k) l.length)) ∧
      (Instr.next (.pointer (some ⟨r, 0, none⟩)) false ty).run P w = .ok (.tuple #[.bool true, enc a, v]) w1 ∧ IterAt w1 r b l.length (seen.push k) ∧ MapIs enc w1 b l ∧
      (Instr.entry (.pointer (some ⟨r, 0, none⟩))).run P w1 = .ok (.tuple #[enc a, v]) w1 := by
  have hne : b ≠ r := by
    intro e
    unfold MapIs at h; unfold IterAt at hr
    rw [e, hr] at h; cases h
  have hold : ∀ x ∈ (ents enc l 0).toArray.toList, x.born < l.length := by
    intro x hx
    obtain ⟨k, a, v, h1, h2, rfl⟩ := ents_mem l 0 x hx
    simpa using h1
  rcases run_next_at (P := P) w ty r b l.length l.length seen (ents enc l 0).toArray l.length hr h hold (Nat.le_refl _) with ⟨h0, hn⟩ | ⟨x, hx, w0, hw0, hn⟩
  · left
    refine ⟨fun k hk => ?_, hn⟩
    obtain ⟨a, v⟩ : α × Value := l[k]
    have hm := ents_at (enc := enc) l 0 k l[k].1 l[k].2 (List.getElem?_eq_getElem hk)
    rw [Nat.zero_add] at hm
    by_cases hc : k ∈ seen.toList
    · exact hc
    · exfalso
      have : ({ key := enc l[k].1, val := l[k].2, born := k } : MapEntry) ∈ (leftOf (ents enc l 0).toArray seen).toList := by
        unfold leftOf
        simp
        exact ⟨hm, by simpa using hc⟩
      rw [Array.mem_toList_iff] at this
      have := Array.size_pos_of_mem this
      omega
  · right
    have hx2 : x ∈ (ents enc l 0) ∧ x.born ∉ seen.toList := by
      unfold leftOf at hx
      simp at hx
      exact ⟨hx.1, by simpa using hx.2⟩
    obtain ⟨k, a, v, h1, h2, rfl⟩ := ents_mem l 0 x hx2.1
    simp only [Nat.zero_add] at hx2 hn
    have hsz : r < w0.heap.size := by rcases hw0 with rfl | rfl <;> exact hr.lt
    have hi : IterAt (setBlock w0 r (.mapIter (some b) l.length (seen.push k) l.length)) r b l.length (seen.push k) := by
      unfold IterAt; simp [setBlock, hsz]
    have hm : MapIs enc (setBlock w0 r (.mapIter (some b) l.length (seen.push k) l.length)) b l := by
      refine MapIs.other ?_ hne _
      rcases hw0 with rfl | rfl <;> exact h
    refine ⟨k, a, v, _, h1, hx2.2, h2, ⟨w0, hw0, rfl⟩, hn, hi, hm, ?_⟩
    have := run_entry_at (P := P) (setBlock w0 r (.mapIter (some b) l.length (seen.push k) l.length)) r b l.length seen (ents enc l 0).toArray l.length { key := enc a, val := v, born := k } hi hm (by
      have := ents_at (enc := enc) l 0 k a v h2
      rw [Nat.zero_add] at this; simpa using this) (by
      show ((ents enc l 0).map (·.born)).Nodup
      rw [ents_born]; exact List.nodup_range')
    exact this
end Go.Proofs.YtkmpdcckgibkhaaGreat
/-
  Rows of strings that are appended. No program.
-/
namespace Go.Proofs.YtkmpdcckgibkhaaGreat
open Go.RowKit

/-- 'append' of one-cell values of any size: v is nil or the call's own; xs, nil or not, reads as 'news'. -/
theorem run_appS {P : Program} (w : World) (base : Nat) (t ty e : TypeId) (z : Value) (bytes : Nat) (ht : P.underlying t = some (.slice e)) (hi : (P.info? e).map (fun i => (i.zero, i.size, i.bytes)) = some (some z, 1, bytes))
    (hz : z.cells.size = 1) (v : Value) (n : Nat) (xs : List Value) (hown : w.ownsRow base e 1 v n xs) (ad : Option Addr) (m c : Nat) (news : List Value) (hm : m = news.length) (hs : Vals w ad news) (hnil : ad = none → m = 0 ∧ c = 0) (h1 : ∀ u ∈ news, u.oneCell' = true)
    (h63 : n + m ≤ 1000000000) (hb8 : bytes ≤ 64) (hbase : base ≤ w.heap.size) :
    ∃ v' w', (Builtin.append_ #[t, t] ty #[v, .slice ad m c]).run P w = .ok v' w' ∧ w'.ownsRow base e 1 v' (n + m) (xs ++ news) ∧ w.grownBy w' v.ownBlock ∧ (v' = .slice none 0 0 ↔ v = .slice none 0 0 ∧ m = 0) := by
  obtain ⟨i, h2, hz0, hz1, hz2⟩ := info_parts hi
  subst hm
  cases ad with
  | none =>
    obtain ⟨hn0, rfl⟩ := hnil rfl
    have hnw : news = [] := List.eq_nil_of_length_eq_zero hn0
    subst hnw
    have hrun := run_append_owned_none (P := P) (w := w) base t ty e i 1 ht h2 v n xs hown
    exact ⟨v, w, hrun, by simpa using hown, ⟨rfl, rfl, rfl, Nat.le_refl _, fun _ _ _ => rfl⟩, by simp⟩
  | some ad =>
    refine run_append_own (P := P) w base t ty e i z 1 bytes ht h2 hz0 hz1 hz2 hz (by omega) v n xs hown ad _ c news (by simp) ?_ h1 (by unfold maxLen; omega) ?_ hbase
    · rcases hs with h | ⟨g, o, ha, _, hc⟩
      · subst h; intro j u hu; simp at hu
      · cases ha; exact vals_cells hc
    · calc (n + news.length) * bytes ≤ 1000000000 * 64 := Nat.mul_le_mul h63 hb8
        _ ≤ _ := by omega

theorem wpList_appS {P : Program} (w : World) {ops : Array Oper} {rest : List Oper} {o : Oper} {a : Act} {Q : Exit → Act → World → Prop}
    (hg : o.guard = none) (s x : Operand) (t : TypeId) (hop : o.op = Op.call { callee := Callee.builtin Builtin.append, args := #[s, x], argTypes := #[t, t] })
    (base : Nat) (e : TypeId) (z : Value) (bytes : Nat) (ht : P.underlying t = some (.slice e)) (hi : (P.info? e).map (fun i => (i.zero, i.size, i.bytes)) = some (some z, 1, bytes))
    (hz : z.cells.size = 1) (v : Value) (n : Nat) (xs : List Value) (hs : a.eval s = v) (hown : w.ownsRow base e 1 v n xs) (ad : Option Addr) (m c : Nat) (news : List Value) (hx : a.eval x = .slice ad m c) (hm : m = news.length) (hr : Vals w ad news) (hnil : ad = none → m = 0 ∧ c = 0) (h1 : ∀ u ∈ news, u.oneCell' = true)
    (h63 : n + m ≤ 1000000000) (hb8 : bytes ≤ 64) (hbase : base ≤ w.heap.size)
    (hK : ∀ v' w', w'.ownsRow base e 1 v' (n + m) (xs ++ news) → w.grownBy w' v.ownBlock → wpList P ops Q rest (a.put o.dst v') w') :
    wpList P ops Q (o :: rest) a w := by
  refine wpList_plain hg fun K hK' => ?_
  obtain ⟨v', w', hrun, r1, r2, r3⟩ := run_appS (P := P) w base t o.type e z bytes ht hi hz v n xs hown ad m c news hm hr hnil h1 h63 hb8 hbase
  unfold Oper.wp
  simp [execOp, hop, resolve, invoke, builtin, hs, hx, hrun, Result.andThen]
  exact hK' _ _ (hK v' w' r1 r2)

/-- .. in a region that draws its order. -/
theorem step_appS {P : Program} {ops : Array Oper} {o : Oper} {a : Act} {w : World} {K : Act → World → Prop} {Q : Exit → Act → World → Prop} {E : Prop}
    (hg : o.guard = none) (s x : Operand) (t : TypeId) (hop : o.op = Op.call { callee := Callee.builtin Builtin.append, args := #[s, x], argTypes := #[t, t] })
    (base : Nat) (e : TypeId) (z : Value) (bytes : Nat) (ht : P.underlying t = some (.slice e)) (hi : (P.info? e).map (fun i => (i.zero, i.size, i.bytes)) = some (some z, 1, bytes))
    (hz : z.cells.size = 1) (v : Value) (n : Nat) (xs : List Value) (hs : a.eval s = v) (hown : w.ownsRow base e 1 v n xs) (ad : Option Addr) (m c : Nat) (news : List Value) (hx : a.eval x = .slice ad m c) (hm : m = news.length) (hr : Vals w ad news) (hnil : ad = none → m = 0 ∧ c = 0) (h1 : ∀ u ∈ news, u.oneCell' = true)
    (h63 : n + m ≤ 1000000000) (hb8 : bytes ≤ 64) (hbase : base ≤ w.heap.size)
    (hK : ∀ v' w', w'.ownsRow base e 1 v' (n + m) (xs ++ news) → w.grownBy w' v.ownBlock → K (a.put o.dst v') w') :
    if Region.wanted o (yielded ops a.tmps) = true then Oper.wp P o a w K Q else E := by
  have hw : Region.wanted o (yielded ops a.tmps) = true := by simp [Region.wanted, hg]
  rw [if_pos hw]
  obtain ⟨v', w', hrun, r1, r2, -⟩ := run_appS (P := P) w base t o.type e z bytes ht hi hz v n xs hown ad m c news hm hr hnil h1 h63 hb8 hbase
  unfold Oper.wp
  simp [execOp, hop, resolve, invoke, builtin, hs, hx, hrun, Result.andThen]
  exact hK v' w' r1 r2

/-- .. in a region that draws its order; where the row lies afterwards. -/
theorem step_appN {P : Program} {ops : Array Oper} {o : Oper} {a : Act} {w : World} {K : Act → World → Prop} {Q : Exit → Act → World → Prop} {E : Prop}
    (hg : o.guard = none) (s x : Operand) (t : TypeId) (hop : o.op = Op.call { callee := Callee.builtin Builtin.append, args := #[s, x], argTypes := #[t, t] })
    (base : Nat) (e : TypeId) (z : Value) (size bytes : Nat) (ht : P.underlying t = some (.slice e)) (hi : (P.info? e).map (fun i => (i.zero, i.size, i.bytes)) = some (some z, size, bytes))
    (hz : z.cells.size = size) (hsz : 0 < size) (v : Value) (n : Nat) (xs : List Value) (hs : a.eval s = v) (hown : w.ownsRow base e size v n xs) (ad : Addr) (m c : Nat) (news : List Value) (hx : a.eval x = .slice (some ad) m c) (hm : news.length = m * size) (hcells : ∀ j u, news[j]? = some u → w.cell? (ad.add j) = some u) (h1 : ∀ u ∈ news, u.oneCell' = true)
    (h63 : n + m ≤ 1000000000) (hb8 : bytes ≤ 128) (hbase : base ≤ w.heap.size) (hm0 : 0 < m)
    (hK : ∀ v' w', w'.ownsRow base e size v' (n + m) (xs ++ news) → w.grownBy w' v.ownBlock → (v'.ownBlock = v.ownBlock ∨ v'.ownBlock = some w.heap.size) → K (a.put o.dst v') w') :
    if Region.wanted o (yielded ops a.tmps) = true then Oper.wp P o a w K Q else E := by
  have hw : Region.wanted o (yielded ops a.tmps) = true := by simp [Region.wanted, hg]
  rw [if_pos hw]
  obtain ⟨v', w', hrun, r1, r2, r3⟩ := run_appN (P := P) w base t o.type e z size bytes ht hi hz hsz v n xs hown ad m c news hm hcells h1 h63 hb8 hbase hm0
  unfold Oper.wp
  simp [execOp, hop, resolve, invoke, builtin, hs, hx, hrun, Result.andThen]
  exact hK v' w' r1 r2 r3
theorem vals_drew {w : World} {a : Option Addr} {l : List Value} (h : Vals w a l) : Vals w.drew a l := h
def letS (c : Nat) : ByteArray := mkS [UInt8.ofNat (97 + c)]
theorem letS_size (c : Nat) : (letS c).size = 1 := rfl
theorem letter_nat (c : Nat) (h : c ≤ 20) : ((UInt8.ofNat (97 + c)).toNat : Int) = 97 + (c : Int) := by
  rw [UInt8.toNat_ofNat', Nat.mod_eq_of_lt (by omega)]; omega
theorem letS_add (l : List UInt8) (c : Nat) : mkS l ++ letS c = mkS (l ++ [UInt8.ofNat (97 + c)]) := by rw [letS, mkS_append]
end Go.Proofs.YtkmpdcckgibkhaaGreat
/-
  Regions that draw their order, walked operation by operation. No program.
-/
namespace Go.Proofs.YtkmpdcckgibkhaaGreat

section
variable {P : Program} {md : Region.Mode} {ops : Array Oper} {Q : Exit → Act → World → Prop}
/-- An operation that yields in whatever world is taken first; where its value goes is written out. -/
theorem take_d {fuel : Nat} {listed : Array Bool} {a : Act} {w : World} (i : Nat) (d : Option Nat) (v : Value) (hs : Region.noSelect ops = true) (hf : Region.free md ops listed i = true)
    (hr : (Region.ready md ops listed).contains i = true) (hQ : ∀ c a w, Q (.panic c) (a.put d v) w → Q (.panic c) a w) (hy : ∃ oi, ops[i]? = some oi ∧ oi.dst = d ∧ Yields P ops oi v a)
    (h : wpAny P md ops Q fuel (listed.setIfInBounds i true) (a.put d v) w) : wpAny P md ops Q (fuel + 1) listed a w := by
  obtain ⟨oi, h1, rfl, h2⟩ := hy
  exact wpAny_take h1 hs hf hr hQ h2 h
/-- An operation that its guard passes over, where no other one is ready. -/
theorem skip_d {fuel : Nat} {listed : Array Bool} {a : Act} {w : World} (i : Nat) (d : Option Nat) (hr : Region.ready md ops listed = [i]) (hi : ∃ oi, ops[i]? = some oi ∧ oi.dst = d ∧ Region.wanted oi (yielded ops a.tmps) = false)
    (h : wpAny P md ops Q fuel (listed.setIfInBounds i true) (a.put d undef) w) : wpAny P md ops Q (fuel + 1) listed a w := by
  obtain ⟨oi, h1, rfl, h2⟩ := hi
  exact wpAny_ready hr (by simp) (BigFrame.allReady_skip h1 h2 h AllReady.nil)
end
end Go.Proofs.YtkmpdcckgibkhaaGreat
