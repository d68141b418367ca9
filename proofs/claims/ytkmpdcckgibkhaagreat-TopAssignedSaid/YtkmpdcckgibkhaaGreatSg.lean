/-
  Walks: the function that extends a list of cuts.
-/
import Derived.Test.YtkmpdcckgibkhaaGreatSf
import Derived.Deep.RegionLaw
namespace Go.Proofs.YtkmpdcckgibkhaaGreat
open Go.RowKit
attribute [local go_sem] Oper.semAt_some

/-- A call, as one step of a region that draws. -/
theorem step_call {P : Program} {ops : Array Oper} {o : Oper} {a : Act} {w : World} {K : Act → World → Prop} {Q : Exit → Act → World → Prop} {E : Prop}
    (hg : o.guard = none) (x : Operand) (xs : List Operand) (ts : Array TypeId) (hop : o.op = Op.call { callee := .value x, args := xs.toArray, argTypes := ts }) (f : FuncId) (cap : List Value) (hx : a.eval x = .func (.func f) #[] cap.toArray)
    (hcall : ∀ args w, (callFunc f args).run P w = .ok (.enter f args) w) (args : List Value) (hargs : xs.map a.eval ++ cap = args) {R : Ending → World → Prop} (hc : Calls P f args.toArray w R)
    (hK : ∀ e w', R e w' → ∃ v, e = .returned v ∧ K (a.put o.dst v) w') : if Region.wanted o (yielded ops a.tmps) = true then Oper.wp P o a w K Q else E := by
  have hw : Region.wanted o (yielded ops a.tmps) = true := by simp [Region.wanted, hg]
  rw [if_pos hw]
  unfold Oper.wp
  have hrun : (execOp a.eval o).run P w = .ok (.enter f args.toArray) w := by
    simp [execOp, hop, resolve, hx, Deferred.ofValue, invoke, hcall, ← hargs]
  rw [hrun]
  show Calls P f args.toArray w _
  refine hc.mono fun e w' hR => ?_
  obtain ⟨v, rfl, hk⟩ := hK e w' hR
  exact hk

/-- An append, as one step of a region that draws. -/
theorem step_app {P : Program} {ops : Array Oper} {o : Oper} {a : Act} {w : World} {K : Act → World → Prop} {Q : Exit → Act → World → Prop} {E : Prop}
    (hg : o.guard = none) (s x : Operand) (t : TypeId) (hop : o.op = Op.call { callee := Callee.builtin Builtin.append, args := #[s, x], argTypes := #[t, t] })
    (base : Nat) (e : TypeId) (z : Value) (bytes : Nat) (ht : P.underlying t = some (.slice e)) (hi : (P.info? e).map (fun i => (i.zero, i.size, i.bytes)) = some (some z, 1, bytes))
    (hz : z.cells.size = 1) (v : Value) (n : Nat) (xs : List Value) (hs : a.eval s = v) (hown : w.ownsRow base e 1 v n xs) (ad : Option Addr) (m c : Nat) (news : List Value) (hx : a.eval x = .slice ad m c) (hm : m = news.length) (hr : Vals w ad news) (hnil : ad = none → m = 0 ∧ c = 0) (h1 : ∀ u ∈ news, u.oneCell' = true)
    (h63 : n + m ≤ 17592186044416) (hb8 : bytes ≤ 8) (hbase : base ≤ w.heap.size)
    (hK : ∀ v' w', w'.ownsRow base e 1 v' (n + m) (xs ++ news) → w.grownBy w' v.ownBlock → K (a.put o.dst v') w') :
    if Region.wanted o (yielded ops a.tmps) = true then Oper.wp P o a w K Q else E := by
  have hw : Region.wanted o (yielded ops a.tmps) = true := by simp [Region.wanted, hg]
  rw [if_pos hw]
  obtain ⟨v', w', hrun, r1, r2, -⟩ := run_app (P := P) w base t o.type e z bytes ht hi hz v n xs hown ad m c news hm hr hnil h1 h63 hb8 hbase
  unfold Oper.wp
  simp [execOp, hop, resolve, invoke, builtin, hs, hx, hrun, Result.andThen]
  exact hK v' w' r1 r2

/-- From one moment to a later one: what was not the caller's is not now, and lies as it lay. -/
structure Step (C : Nat → Prop) (W : World) (C' : Nat → Prop) (W' : World) : Prop where
  size : W.heap.size ≤ W'.heap.size
  old : ∀ k, k < W.heap.size → ¬ C k → ¬ C' k ∧ W'.heap[k]? = W.heap[k]?
  lt : ∀ k, C' k → k < W'.heap.size
theorem Step.trans {C C' C'' : Nat → Prop} {A B D : World} (h : Step C A C' B) (k : Step C' B C'' D) : Step C A C'' D :=
  ⟨Nat.le_trans h.size k.size, fun i hi hc => by
    have h1 := h.old i hi hc
    have h2 := k.old i (Nat.lt_of_lt_of_le hi h.size) h1.1
    exact ⟨h2.1, h2.2.trans h1.2⟩, k.lt⟩
theorem Step.refl {C : Nat → Prop} {A : World} (h : ∀ k, C k → k < A.heap.size) : Step C A C A := ⟨Nat.le_refl _, fun _ _ hc => ⟨hc, rfl⟩, h⟩
theorem Step.below {C : Nat → Prop} {A B : World} (hb : Below A.heap.size A B) (h : ∀ k, C k → k < A.heap.size) : Step C A C B :=
  ⟨hb.size, fun k hk hc => ⟨hc, hb.block k hk⟩, fun k hk => Nat.lt_of_lt_of_le (h k hk) hb.size⟩
theorem Step.grew {C C' : Nat → Prop} {A B : World} (h : Grew C C' A B) : Step C A C' B :=
  ⟨h.keep.size, fun k hk hc => ⟨fun h' => (h.old k h').elim hc (fun h'' => by omega), h.keep.same k hk hc⟩, h.lt⟩
theorem Blk.step {C C' : Nat → Prop} {A B : World} {b : Nat} {cs : Array Value} {t : TypeId} (h : Blk A b cs t) (hs : Step C A C' B) (hc : ¬ C b) : Blk B b cs t ∧ ¬ C' b :=
  ⟨((hs.old b h.lt hc).2).trans h, (hs.old b h.lt hc).1⟩

/-- The boxes that the iterator's functions have captured. -/
structure Env (lp many to bm bY bt be : Nat) (C : Nat → Prop) (W : World) : Prop where
  m : Blk W bm #[.int .i64 many] 3 ∧ ¬ C bm
  y : Blk W bY #[.func (.yield lp) #[] #[]] 100 ∧ ¬ C bY
  t : Blk W bt #[.int .i64 to] 3 ∧ ¬ C bt
  e : Blk W be #[.func (.func 83) #[] #[.pointer (some ⟨bm, 0, none⟩), .pointer (some ⟨bY, 0, none⟩), .pointer (some ⟨bt, 0, none⟩), .pointer (some ⟨be, 0, none⟩)]] 136 ∧ ¬ C be
theorem Env.step {lp many to bm bY bt be : Nat} {C C' : Nat → Prop} {W W' : World} (h : Env lp many to bm bY bt be C W) (hs : Step C W C' W') : Env lp many to bm bY bt be C' W' :=
  ⟨h.m.1.step hs h.m.2, h.y.1.step hs h.y.2, h.t.1.step hs h.t.2, h.e.1.step hs h.e.2⟩

/-- A row that lies in memory from block nb on. -/
def OwnR (nb : Nat) (W : World) (a : Option Addr) (c : Nat) (l : List Int) : Prop := W.ownsRow nb 3 1 (.slice a l.length c) l.length (l.map (Value.int .i64))
theorem OwnR.heap {nb : Nat} {W W' : World} {a : Option Addr} {c : Nat} {l : List Int} (h : OwnR nb W a c l) (hk : ∀ g, a = some ⟨g, 0, none⟩ → nb ≤ g → g < W.heap.size → (∃ cs, Blk W g cs 3) → W'.heap[g]? = W.heap[g]?) : OwnR nb W' a c l := by
  refine ⟨h.1, h.2.imp id ?_⟩
  rintro ⟨g, cap, cur, e1, e2, e3, e4⟩
  refine ⟨g, cap, cur, e1, e2, ?_, e4⟩
  rw [hk g (by cases e1; rfl) e2 (Blk.lt e3) ⟨cur, e3⟩]; exact e3
theorem OwnR.nil (nb : Nat) (W : World) : OwnR nb W none 0 [] := World.ownsRow_nil _ _ _ _
/-- A slice that is none of the caller's. -/
structure SlA (nb : Nat) (C : Nat → Prop) (W : World) (a : Option Addr) (c : Nat) (l : List Int) : Prop where
  ints : Ints W a l
  nil : a = none → c = 0
  cap : l.length ≤ c
  free : ∀ g o, a = some ⟨g, o, none⟩ → g < W.heap.size ∧ ¬ C g
  own : OwnR nb W a c l
theorem SlA.step {nb : Nat} {C C' : Nat → Prop} {W W' : World} {a : Option Addr} {c : Nat} {l : List Int} (h : SlA nb C W a c l) (hs : Step C W C' W') : SlA nb C' W' a c l := by
  refine ⟨?_, h.nil, h.cap, fun g o e => ?_, h.own.heap fun g e _ hg _ => (hs.old g hg (h.free g 0 e).2).2⟩
  · rcases h.ints with h0 | ⟨g, o, ha, hg, hc⟩
    · exact .inl h0
    · refine .inr ⟨g, o, ha, Nat.lt_of_lt_of_le hg hs.size, fun i u hu => ?_⟩
      rw [World.cell?_of_block ((hs.old g hg (h.free g o ha).2).2)]
      exact hc i u hu
  · have := h.free g o e
    exact ⟨Nat.lt_of_lt_of_le this.1 hs.size, (hs.old g this.1 this.2).1⟩

/-- What is handed over reads as the list. -/
def ArgL (nb : Nat) (x : List Int) (v : Value) (W : World) : Prop := ∃ a c, v = .slice a x.length c ∧ Ints W a x ∧ (a = none → c = 0) ∧ x.length ≤ c ∧ OwnR nb W a c x

/-- What extend comes to. -/
def ExtPost (J Jx : List (List Int) → (Nat → Prop) → World → Prop) (total nxt : List (List Int)) (C : Nat → Prop) (W : World) (e : Ending) (B : World) : Prop :=
  ∃ b, e = .returned (.bool b) ∧ (b = true → ∃ C', Step C W C' B ∧ J nxt C' B) ∧ (b = false → ∃ C' pre x post, total = pre ++ x :: post ∧ Jx (pre ++ [x]) C' B)

theorem lsts_length : ∀ (m fr fuel : Nat) (x : List Int), x ∈ lsts m fr fuel → x.length = m := by
  intro m
  induction m with
  | zero => intro fr fuel x h; simp [lsts] at h; simp [h]
  | succ m ih =>
    intro fr fuel
    induction fuel generalizing fr with
    | zero => intro x h; simp [lsts] at h
    | succ n ihn =>
      intro x h
      simp only [lsts, List.mem_append, List.mem_map] at h
      rcases h with ⟨y, hy, rfl⟩ | h
      · simp [ih _ _ _ hy]
      · exact ihn _ _ h

theorem ownsRow_base {w : World} {base base' e size n : Nat} {v : Value} {xs : List Value} (h : w.ownsRow base e size v n xs) (hb : base' ≤ base) : w.ownsRow base' e size v n xs := by
  refine ⟨h.1, ?_⟩
  rcases h.2 with h2 | ⟨g, cap, cur, hv, hg, r⟩
  · exact .inl h2
  · exact .inr ⟨g, cap, cur, hv, Nat.le_trans hb hg, r⟩

theorem step_clone {ops : Array Oper} {o : Oper} {act : Act} {w : World} {K : Act → World → Prop} {Q : Exit → Act → World → Prop} {E : Prop}
    (hg : o.guard = none) (x : Operand) (hop : o.op = Op.call { callee := .value (.func 84), args := #[x], argTypes := #[24] }) (a : Option Addr) (c : Nat) (l : List Int) (hx : act.eval x = .slice a l.length c)
    (base : Nat) (W : World) (hI : Ints W a l) (hW : W.heap.size = base) (hb : Below base W w) (hn : a = none → l = [] ∧ c = 0) (hl : l.length ≤ 1000)
    (hK : ∀ a1 c1 w', w'.ownsRow base 3 1 (.slice a1 l.length c1) l.length (l.map (Value.int .i64)) → Below base W w' → Below w.heap.size w w' → K (act.put o.dst (.slice a1 l.length c1)) w') : if Region.wanted o (yielded ops act.tmps) = true then Oper.wp Tryz.prog o act w K Q else E := by
  subst hW
  refine step_call hg (.func 84) [x] #[24] hop 84 [] rfl Tryz.call84 [.slice a l.length c] (by simp [hx]) (clone_any a c l w (hI.below hb (Nat.le_refl _)) hn hl) ?_
  rintro e w' ⟨a1, c1, rfl, hown, hb'⟩
  exact ⟨_, rfl, hK a1 c1 w' (ownsRow_base hown hb.size) (hb.trans (hb'.mono hb.size)) hb'⟩

section
variable (lp many to bm bY bt be nb : Nat) (J Jx : List (List Int) → (Nat → Prop) → World → Prop) (total : List (List Int))

/-- The call of yield. -/
def YieldOk : Prop := ∀ pre x post v C A, total = pre ++ x :: post → J pre C A → (∀ k, C k → k < A.heap.size) → ArgL nb x v A → YieldAt Fence.wide 0 Tryz.prog lp #[v] A fun e B => ∃ C', Grew C C' A B ∧
      ((e = .returned (.bool true) ∧ J (pre ++ [x]) C' B) ∨ (e = .returned (.bool false) ∧ Jx (pre ++ [x]) C' B))

set_option maxHeartbeats 400000 in
theorem ext_zero (hY : YieldOk lp nb J Jx total) (a : Option Addr) (c : Nat) (l : List Int) (fr : Nat) (pre post : List (List Int)) (C : Nat → Prop) (W : World) (hl : l.length = many) (hE : Env lp many to bm bY bt be C W) (hS : SlA nb C W a c l) (hC : ∀ k, C k → k < W.heap.size)
    (ht : total = pre ++ l :: post) (hj : J pre C W) :
    Calls Tryz.prog 83 #[.slice a l.length c, .int .i64 fr, .pointer (some ⟨bm, 0, none⟩), .pointer (some ⟨bY, 0, none⟩), .pointer (some ⟨bt, 0, none⟩), .pointer (some ⟨be, 0, none⟩)] W (ExtPost J Jx total (pre ++ [l]) C W) := by
  have q1 := hE.m.1.cell 0
  have q2 := hE.y.1.cell 0
  simp only [List.getElem?_toArray, List.getElem?_cons_zero] at q1 q2
  have h0 : ((l.length : Int) == (many : Int)) = true := beq_iff_eq.2 (by omega)
  obtain ⟨fn, tmps, assign, body, hy, hR⟩ := hY pre l post (.slice a l.length c) C W ht hj hC ⟨a, c, rfl, hS.ints, hS.nil, hS.cap, hS.own⟩
  have HR := hid hR
  have HT := hid ht
  have HL := hid hl
  clear hR ht hE hS hj hl hY hC
  refine (callsIn_wide (n := 0)).1 (callsIn_of_wp Tryz.func83 rfl trivial ?_ rfl)
  simp only [Tryz.ntmps83, List.size_toArray, List.length_cons, List.length_nil, Nat.reduceAdd, Nat.reduceSub, Array.replicate_succ, Array.replicate_zero, List.push_toArray, List.append_toArray, List.nil_append, List.cons_append]
  gi_wp2
  refine ⟨rfl, HR.out.mono ?_⟩
  rintro e B ⟨C', hG, (⟨rfl, hJ'⟩ | ⟨rfl, hJx'⟩)⟩
  · have H1 := hid (And.intro hG hJ')
    clear hG hJ'
    gi_wp2
    go_ret
    exact ⟨true, rfl, fun _ => ⟨C', Step.grew H1.out.1, H1.out.2⟩, fun h => nomatch h⟩
  · have H1 := hid hJx'
    clear hG hJx'
    gi_wp2
    go_ret
    exact ⟨false, rfl, (fun h => nomatch h), fun _ => ⟨C', pre, l, post, HT.out, H1.out⟩⟩

/-- The lists from a position on. -/
def nxt (m fr : Nat) (l : List Int) : List (List Int) := (lsts m fr (to - fr)).map (l ++ ·)
theorem nxt_zero (fr : Nat) (l : List Int) : nxt to 0 fr l = [l] := by simp [nxt, lsts]
theorem nxt_end (m fr : Nat) (l : List Int) (h : to ≤ fr) : nxt to (m + 1) fr l = [] := by simp [nxt, Nat.sub_eq_zero_of_le h, lsts]
theorem nxt_step (m fr : Nat) (l : List Int) (h : fr < to) : nxt to (m + 1) fr l = nxt to m (fr + 1) (l ++ [(fr : Int)]) ++ nxt to (m + 1) (fr + 1) l := by
  obtain ⟨d, hd⟩ : ∃ d, to = fr + 1 + d := ⟨to - (fr + 1), by omega⟩
  unfold nxt
  rw [show to - fr = d + 1 by omega, show to - (fr + 1) = d by omega, lsts, List.map_append, List.map_map]
  rw [show ((fun x => l ++ x) ∘ fun x => (fr : Int) :: x) = (fun x => l ++ [(fr : Int)] ++ x) from funext fun x => by simp]

set_option maxRecDepth 100000 in
set_option maxHeartbeats 2000000 in
theorem ext_any (hJ : Firm J) (hmany : many ≤ 100) (hto : to ≤ 1000) (hY : YieldOk lp nb J Jx total) : ∀ (m : Nat) (a : Option Addr) (c : Nat) (l : List Int) (fr : Nat) (pre post : List (List Int)) (C : Nat → Prop) (W : World), l.length + m = many → fr ≤ 1001 → nb ≤ W.heap.size → Env lp many to bm bY bt be C W → SlA nb C W a c l → (∀ k, C k → k < W.heap.size) →
    total = pre ++ nxt to m fr l ++ post → J pre C W →
    Calls Tryz.prog 83 #[.slice a l.length c, .int .i64 fr, .pointer (some ⟨bm, 0, none⟩), .pointer (some ⟨bY, 0, none⟩), .pointer (some ⟨bt, 0, none⟩), .pointer (some ⟨be, 0, none⟩)] W (ExtPost J Jx total (pre ++ nxt to m fr l) C W) := by
  intro m
  induction m with
  | zero =>
    intro a c l fr pre post C W hl _ _ hE hS hC ht hj
    rw [nxt_zero] at ht ⊢
    exact ext_zero lp many to bm bY bt be nb J Jx total hY a c l fr pre post C W (by omega) hE hS hC (by simpa using ht) hj
  | succ m ih =>
    intro a c l fr pre post C W hl hfr hnb hE hS hC ht hj
    have IH := hid ih
    have q1 := hE.m.1.cell 0
    simp only [List.getElem?_toArray, List.getElem?_cons_zero] at q1
    have h0 : ((l.length : Int) == (many : Int)) = false := beq_eq_false_iff_ne.2 (by omega)
    have hll : l.length ≤ 99 := by omega
    have HNB := hid hnb
    have HL := hid hl
    have HES := hid (And.intro hE (And.intro hS hC))
    have HT := hid ht
    have HJ := hid hj
    clear ih hE hS ht hj hC hl hY hnb
    go_enter Tryz.func83, Tryz.ntmps83
    go_wp2_with fail
    go_loopw [9] (fun i wr => ∃ (k : Nat) (C' : Nat → Prop) (pre' : List (List Int)), i = .int .i64 k ∧ k ≤ 1001 ∧ Hid (Step C W C' wr ∧ J pre' C' wr ∧ pre' ++ nxt to (m + 1) k l = pre ++ nxt to (m + 1) fr l)) (fun i _ => 1001 - (intOf i).toNat)
    case atStart => exact ⟨fr, C, pre, rfl, hfr, Step.refl HES.out.2.2, HJ.out, rfl⟩
    case round =>
      obtain ⟨k, C', pre', rfl, hk, HK⟩ := hrel
      have hEk := HES.out.1.step HK.out.1
      have hSk := HES.out.2.1.step HK.out.1
      have q3 := hEk.t.1.cell 0
      have q4 := hEk.e.1.cell 0
      have hbe := hEk.e.1.lt
      simp only [List.getElem?_toArray, List.getElem?_cons_zero] at q3 q4
      by_cases hlt : k < to
      · have HCL := hid (And.intro hSk.ints (show a = none → l = [] ∧ c = 0 from fun h => ⟨List.eq_nil_of_length_eq_zero (by have := hSk.nil h; have := hSk.cap; omega), hSk.nil h⟩))
        obtain ⟨L2, hL2⟩ : ∃ L2, L2 = l ++ [(k : Int)] := ⟨_, rfl⟩
        have hll2 : L2.length = l.length + 1 := by rw [hL2]; simp
        have HLL := hid hll2
        have CALL := fun (B : World) (a2 : Option Addr) (c2 : Nat) (hb : Below wr.heap.size wr B) (ho : B.ownsRow wr.heap.size 3 1 (.slice a2 L2.length c2) L2.length (L2.map (Value.int .i64))) => hid (
          show Calls Tryz.prog 83 #[.slice a2 L2.length c2, .int .i64 ((k : Int) + 1), .pointer (some ⟨bm, 0, none⟩), .pointer (some ⟨bY, 0, none⟩), .pointer (some ⟨bt, 0, none⟩), .pointer (some ⟨be, 0, none⟩)] B (ExtPost J Jx total (pre' ++ nxt to m (k + 1) L2) C' B) from by
            have hst := Step.below hb HK.out.1.lt
            obtain ⟨a2', c2', he, hr2⟩ := ownsRow_ints ho
            simp only [Value.slice.injEq] at he
            obtain ⟨rfl, -, rfl⟩ := he
            obtain ⟨-, hcap, hnil⟩ := ownsRow_facts ho
            refine IH.out a2 c2 L2 (k + 1) pre' (nxt to (m + 1) (k + 1) l ++ post) C' B (by have := HL.out; omega) (by omega) (Nat.le_trans HNB.out (Nat.le_trans HK.out.1.size hb.size)) (hEk.step hst) ⟨hr2, hnil, hcap, fun g o e => ?_, ownsRow_base ho (Nat.le_trans HNB.out HK.out.1.size)⟩ hst.lt ?_ (hJ _ _ _ _ HK.out.2.1 hb)
            · have h1 := ho.lt g (by rw [e]; rfl)
              exact ⟨h1.2, fun h => by have := HK.out.1.lt g h; omega⟩
            · rw [HT.out, ← HK.out.2.2, nxt_step to m k l hlt, hL2]; simp)
        have HL2 := hid hL2
        clear hEk hSk hL2 hll2
        go_wp2_with fail
        have HW := hid (Below.refl wr.heap.size wr)
        have hwr : IntKind.i64.wrap ((k : Int) + 1) = (k : Int) + 1 := IntWalk.i64_in _ (by omega)
        go_region_law (first
          | (refine step_clone rfl (.tmp 24) rfl a c l rfl wr.heap.size wr HCL.out.1 rfl ?_ HCL.out.2 (by omega) ?_
             · first | exact HW.out.drew | exact (HW.out.alloc (Nat.le_refl _) _).drew | exact HW.out.drew.alloc (Nat.le_refl _) _
             intro a1 c1 w1 hown1 hb1 hb1'
             have q41 := (hb1.cell (p := ⟨be, 0, none⟩) hbe).trans q4
             have hb1s := hb1.size
             have hbe1 : be < w1.heap.size := Nat.lt_of_lt_of_le hbe hb1s
             have H1 := hid (And.intro hown1 (And.intro hb1 hb1'))
             clear hown1 hb1 hb1')
          | (refine step_call rfl (.tmp 23) [.tmp 28, .tmp 30] #[24, 3] rfl 83 [.pointer (some ⟨bm, 0, none⟩), .pointer (some ⟨bY, 0, none⟩), .pointer (some ⟨bt, 0, none⟩), .pointer (some ⟨be, 0, none⟩)] rfl Tryz.call83 [.slice a2 L2.length c2, .int .i64 ((k : Int) + 1), .pointer (some ⟨bm, 0, none⟩), .pointer (some ⟨bY, 0, none⟩), .pointer (some ⟨bt, 0, none⟩), .pointer (some ⟨be, 0, none⟩)] rfl (CALL w2 a2 c2 H2.out.1 H2.out.2).out ?_
             rintro e w3 ⟨b, rfl, hp⟩
             refine ⟨.bool b, rfl, ?_⟩
             have HP := hid hp
             clear hp)
          | (refine step_app rfl (.tmp 25) (.tmp 27) 24 rfl wr.heap.size 3 (.int .i64 0) 8 Tryz.underlying24 infoS3 rfl (.slice a1 l.length c1) l.length _ rfl (H1.out.1.alloc _) (some ⟨w1.heap.size, 0, none⟩) 1 1 [.int .i64 k] rfl rfl (vals_new _ _ _ _ rfl) (fun h => by cases h) (by simp [Value.oneCell']) (by omega) (by omega) ?_ ?_
             · simp; omega
             intro v2 w2 hown2 hg2
             have hown2' : w2.ownsRow wr.heap.size 3 1 v2 L2.length (L2.map (Value.int .i64)) := by rw [HLL.out, HL2.out, List.map_append]; exact hown2
             obtain ⟨a2, c2, rfl, -⟩ := ownsRow_ints (l := L2) hown2'
             have hb2 : Below wr.heap.size wr w2 := below_app (H1.out.2.1.alloc hb1s _) hg2 (H1.out.1.alloc _) (by simp; omega) (Nat.le_refl _)
             have q42 := (hb2.cell (p := ⟨be, 0, none⟩) hbe).trans q4
             have H2 := hid (And.intro hb2 hown2')
             clear hown2 hg2 hown2' hb2)
          | (refine step_app rfl (.tmp 25) (.tmp 27) 24 rfl wr.heap.size 3 (.int .i64 0) 8 Tryz.underlying24 infoS3 rfl (.slice a1 l.length c1) l.length _ rfl H1.out.1 (some ⟨wr.heap.size, 0, none⟩) 1 1 [.int .i64 k] rfl rfl (Vals.below (vals_drew (vals_new wr #[.int .i64 k] 3 _ rfl)) H1.out.2.2 (Nat.le_refl _)) (fun h => by cases h) (by simp [Value.oneCell']) (by omega) (by omega) hb1s ?_
             intro v2 w2 hown2 hg2
             have hown2' : w2.ownsRow wr.heap.size 3 1 v2 L2.length (L2.map (Value.int .i64)) := by rw [HLL.out, HL2.out, List.map_append]; exact hown2
             obtain ⟨a2, c2, rfl, -⟩ := ownsRow_ints (l := L2) hown2'
             have hb2 : Below wr.heap.size wr w2 := below_app H1.out.2.1 hg2 H1.out.1 hb1s (Nat.le_refl _)
             have q42 := (hb2.cell (p := ⟨be, 0, none⟩) hbe).trans q4
             have H2 := hid (And.intro hb2 hown2')
             clear hown2 hg2 hown2' hb2)
          )
        all_goals
          cases b
          · have HP2 := hid (HP.out.2 rfl)
            clear HP CALL
            go_wp2
            go_ret
            exact ⟨false, rfl, (fun h => nomatch h), fun _ => HP2.out⟩
          · obtain ⟨C'', hst, hj⟩ := HP.out.1 rfl
            have hfin : Step C W C'' w3 ∧ J (pre' ++ nxt to m (k + 1) L2) C'' w3 ∧ (pre' ++ nxt to m (k + 1) L2) ++ nxt to (m + 1) (k + 1) l = pre ++ nxt to (m + 1) fr l :=
              ⟨HK.out.1.trans ((Step.below H2.out.1 HK.out.1.lt).trans hst), hj, by rw [HL2.out, List.append_assoc, ← nxt_step to m k l hlt]; exact HK.out.2.2⟩
            have HF := hid hfin
            clear HP CALL hst hj hfin
            go_wp2
            go_roundw
            case rel => exact ⟨k + 1, C'', _, by go_num, by omega, HF⟩
            case measure => simp [intOf]; omega
      · have hfin : pre' = pre ++ nxt to (m + 1) fr l := by rw [← HK.out.2.2, nxt_end to m k l (by omega), List.append_nil]
        have HF := hid hfin
        clear hfin hEk hSk
        go_wp2
        go_ret
        exact ⟨true, rfl, fun _ => ⟨C', HK.out.1, by rw [← HF.out]; exact HK.out.2.1⟩, fun h => nomatch h⟩
end
end Go.Proofs.YtkmpdcckgibkhaaGreat
