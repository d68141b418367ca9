/-
  Walks: the fewest cuts of a chain.
-/
import Derived.Test.YtkmpdcckgibkhaaGreatSh
import Derived.Sort.LoopGhostIn
namespace Go.Proofs.YtkmpdcckgibkhaaGreat
open Go.RowKit
attribute [local go_sem] Oper.semAt_some

/-- The boxes of a function that returns cuts: its string, its two results. -/
structure LB (n : Nat) (s : ByteArray) (va : Value) (no : Int) (W : World) : Prop where
  s : Blk W n #[.string s] 9
  v : Blk W (n + 1) #[va] 24
  e : Blk W (n + 1 + 1) #[.int .i64 no] 25
theorem LB.new (w : World) (s : ByteArray) (va : Value) (no : Int) : LB w.heap.size s va no (((w.alloc (.cells #[.string s] 9)).alloc (.cells #[va] 24)).alloc (.cells #[.int .i64 no] 25)) :=
  ⟨((Blk.new w _ _).alloc _).alloc _, (Blk.mk' (by simp) rfl : Blk _ _ _ _).alloc _, Blk.mk' (by simp) rfl⟩
theorem LB.below {n : Nat} {s : ByteArray} {va : Value} {no : Int} {W W' : World} {B : Nat} (h : LB n s va no W) (hb : Below B W W') (hB : n + 1 + 1 < B) : LB n s va no W' :=
  ⟨h.s.below hb (by omega), h.v.below hb (by omega), h.e.below hb hB⟩
theorem LB.facts {n : Nat} {s : ByteArray} {va : Value} {no : Int} {W : World} (h : LB n s va no W) :
    W.cell? ⟨n, 0, none⟩ = some (.string s) ∧ W.cell? ⟨n + 1, 0, none⟩ = some va ∧ W.cell? ⟨n + 1 + 1, 0, none⟩ = some (.int .i64 no) ∧ W.frozen? ⟨n + 1, 0, none⟩ = false ∧ W.frozen? ⟨n + 1 + 1, 0, none⟩ = false := by
  have a := h.s.cell 0
  have b := h.v.cell 0
  have c := h.e.cell 0
  simp only [List.getElem?_toArray, List.getElem?_cons_zero] at a b c
  exact ⟨a, b, c, h.v.free 0, h.e.free 0⟩
theorem LB.firm {n : Nat} {s : ByteArray} {va : Value} {no : Int} {W W' : World} {l : Nat} (h : LB n s va no W) (hl : n + 1 + 1 < l) (hk : ∀ k, k < W.heap.size → k ≠ l → W'.heap[k]? = W.heap[k]?) : LB n s va no W' :=
  ⟨(hk _ h.s.lt (by omega)).trans h.s, (hk _ h.v.lt (by omega)).trans h.v, (hk _ h.e.lt (by omega)).trans h.e⟩
theorem LB.put {n : Nat} {s : ByteArray} {va : Value} {no : Int} {W : World} (h : LB n s va no W) (va' : Value) (no' : Int) : LB n s va' no' ((W.setCell ⟨n + 1, 0, none⟩ va').setCell ⟨n + 1 + 1, 0, none⟩ (.int .i64 no')) :=
  ⟨(h.s.other _ (by simp) _).other _ (by simp; omega) _, (h.v.set 0 va').other _ (by simp) _, (h.e.other _ (by simp) _).set 0 _⟩
theorem LB.ints {n : Nat} {s : ByteArray} {a0 : Option Addr} {l0 c0 : Nat} {no : Int} {W : World} (h : LB n s (.slice a0 l0 c0) no W) {a : Option Addr} {x : List Int} (hi : Ints W a x) (va' : Value) : Ints ((W.setCell ⟨n + 1, 0, none⟩ va').setCell ⟨n + 1 + 1, 0, none⟩ (.int .i64 no)) a x := by
  rcases hi with hi | ⟨g, o, ha, hg, hc⟩
  · exact .inl hi
  obtain ⟨-, h1, h2, -⟩ := h.facts
  refine .inr ⟨g, o, ha, by simpa [World.setCell] using hg, fun i u hu => ?_⟩
  have h3 := hc i u hu
  obtain ⟨y, -, rfl⟩ : ∃ y, x[i]? = some y ∧ Value.int .i64 y = u := by simpa using hu
  have e1 : (⟨n + 1, 0, none⟩ : Addr) ≠ ⟨g, o + i, none⟩ := fun e => by rw [← e, h1] at h3; cases h3
  have h4 : (W.setCell ⟨n + 1, 0, none⟩ va').cell? ⟨g, o + i, none⟩ = some (.int .i64 y) := by rw [World.cell?_setCell_other (h := e1), h3]
  by_cases e2 : (⟨n + 1 + 1, 0, none⟩ : Addr) = ⟨g, o + i, none⟩
  · rw [← e2, h2] at h3; cases h3
    rw [← e2]; rw [← e2] at h4
    exact World.cell?_setCell_same _ _ _ h4
  · rw [World.cell?_setCell_other (h := e2), h4]
theorem LB.shut {B n : Nat} {s : ByteArray} {va : Value} {no : Int} {W W' : World} (h : LB n s va no W) (hs : ShutM B W W') : LB n s va no W' := ⟨hs.blk h.s, hs.blk h.v, hs.blk h.e⟩
theorem LB.other {n : Nat} {s : ByteArray} {va : Value} {no : Int} {W : World} (h : LB n s va no W) (p : Addr) (hp : n + 1 + 1 < p.block) (u : Value) : LB n s va no (W.setCell p u) :=
  ⟨h.s.other _ (by omega) _, h.v.other _ (by omega) _, h.e.other _ (by omega) _⟩

set_option maxHeartbeats 1000000 in
theorem least_odd (s : ByteArray) (w : World) (hs : s.size ≤ 1000) (h : evenChainB s.data.toList = false) :
    Calls Tryz.prog 19 #[.string s] w (RetCutsO [] 2 w) := by
  have H := hid h
  clear h
  go_enter Tryz.func19, Tryz.ntmps19
  go_wp2_with fail
  refine (isEven_any s _ (by omega)).mono ?_
  rintro e w1 ⟨rfl, hb⟩
  rw [H.out]
  have hlb := (LB.new w s (.slice none 0 0) 0).below hb (by simp)
  have hbw : Below w.heap.size w w1 := ((((Below.refl _ w).alloc (Nat.le_refl _) _).alloc (by simp) _).alloc (by simp; omega) _).trans (hb.mono (by simp; omega))
  obtain ⟨q0, q1, q2, f1, f2⟩ := hlb.facts
  have HLB := hid hlb
  clear hlb hb
  go_wp2
  obtain ⟨-, r1, r2, -⟩ := (HLB.out.put (.slice none 0 0) 2).facts
  refine bodyPost_ret (v := .tuple #[.slice none 0 0, .int .i64 2]) (by simp [results, Tryz.results19, go_sem, r1, r2]) rfl ⟨none, 0, rfl, Ints.nil _ _, fun _ => rfl, Nat.le_refl _, ?_, OwnR.nil _ _⟩
  exact (hbw.setCell (by simp) _).setCell (by simp; omega) _

/-- The marks and the boxes. -/
structure MB (n l B : Nat) (ds : List Deferred) (s : ByteArray) (va : Value) (no : Int) (w W : World) : Prop where
  lb : LB n s va no W
  marks : MarksOk B ds W
  lt : ∀ D, { target := .collected D, args := #[] } ∈ ds → D < l
  nl : n + 1 + 1 < l
  nB : n + 1 + 1 < B
  below : Below w.heap.size w W
theorem MB.firm {n l B : Nat} {ds : List Deferred} {s : ByteArray} {va : Value} {no : Int} {w A C : World} (h : MB n l B ds s va no w A) (hl : w.heap.size ≤ l) (hs : A.heap.size ≤ C.heap.size) (ho : C.os = A.os) (ht : C.tape = A.tape) (hp : C.output = A.output) (hk : ∀ k, k < A.heap.size → k ≠ l → C.heap[k]? = A.heap[k]?) : MB n l B ds s va no w C := by
  refine ⟨h.lb.firm h.nl hk, ?_, h.lt, h.nl, h.nB, h.below.trans ⟨ho, ht, hp, hs, fun k hkB => hk k (by have := h.below.size; omega) (by omega)⟩⟩
  obtain ⟨Ds, h1, h2, h3⟩ := h.marks
  refine ⟨Ds, h1, h2, fun D hD => ?_⟩
  obtain ⟨a, b, c⟩ := h3 D hD
  have := h.lt D (by rw [h1]; exact List.mem_map.2 ⟨D, hD, rfl⟩)
  exact ⟨a, by omega, (hk D b (by omega)).trans c⟩
theorem MB.step {n l B : Nat} {ds : List Deferred} {s : ByteArray} {va : Value} {no : Int} {w A C : World} (h : MB n l B ds s va no w A) (hb : Below A.heap.size A C) : MB n l B ds s va no w C :=
  ⟨h.lb.below hb h.lb.e.lt, h.marks.keeps hb.size (fun k _ hk _ => hb.block k hk), h.lt, h.nl, h.nB, h.below.trans (hb.mono h.below.size)⟩
theorem MB.put {n l B : Nat} {ds : List Deferred} {s : ByteArray} {va : Value} {no : Int} {w A : World} (h : MB n l B ds s va no w A) (hn : w.heap.size ≤ n) (va' : Value) (no' : Int) : MB n l B ds s va' no' w ((A.setCell ⟨n + 1, 0, none⟩ va').setCell ⟨n + 1 + 1, 0, none⟩ (.int .i64 no')) := by
  refine ⟨h.lb.put va' no', h.marks.keeps (by simp [World.setCell]) (fun k hk _ _ => ?_), h.lt, h.nl, h.nB, (h.below.setCell (by simp; omega) _).setCell (by simp; omega) _⟩
  have := h.nB
  exact (Below.heap_setCell _ _ _ _ (by simp; omega)).trans (Below.heap_setCell _ _ _ _ (by simp; omega))
theorem MB.cons {n l l' B D : Nat} {ds : List Deferred} {s : ByteArray} {va : Value} {no : Int} {w A : World} (h : MB n l B ds s va no w A) (hB : B ≤ D) (hD : A.heap[D]? = some (.deferred (some []))) (hn : ∀ k, { target := .collected k, args := #[] } ∈ ds → k ≠ D) (hl : l ≤ l') (hDl : D < l') : MB n l' B ({ target := .collected D, args := #[] } :: ds) s va no w A :=
  ⟨h.lb, h.marks.cons hB hD hn, fun k hk => by
    rcases List.mem_cons.1 hk with e | hk
    · cases e; exact hDl
    · have := h.lt k hk; omega, by have := h.nl; omega, h.nB, h.below⟩

/-- What Least holds between two rounds over the lists of cuts. -/
def LeI (f : List Int → Bool) (n l B : Nat) (ds : List Deferred) (s : ByteArray) (w : World) (pre : List (List Int)) (C : Nat → Prop) (W : World) : Prop :=
  MB n l B ds s (.slice none 0 0) 0 w W ∧ C (n + 1) ∧ C (n + 1 + 1) ∧ (∀ x ∈ pre, f x = false)
theorem LeI_firm (f : List Int → Bool) (n l B : Nat) (ds : List Deferred) (s : ByteArray) (w : World) (hl : w.heap.size ≤ l) : FirmX l (LeI f n l B ds s w) := by
  rintro pre C A B ⟨h1, h2, h3, h6⟩ hs ho ht hp hk
  exact ⟨h1.firm hl hs ho ht hp hk, h2, h3, h6⟩
/-- A row of the call's own, its block not block n. -/
def OwnX (n nb : Nat) (W : World) (a : Option Addr) (c : Nat) (x : List Int) : Prop := OwnR nb W a c x ∧ ∀ g o, a = some ⟨g, o, none⟩ → g ≠ n
theorem OwnX.of {n nb : Nat} {W : World} {a : Option Addr} {c : Nat} {x : List Int} {r : Loop} (h : OwnR nb W a c x) (hn : W.heap[n]? = some (.loop r)) : OwnX n nb W a c x := by
  refine ⟨h, fun g o e e2 => ?_⟩
  subst e2
  rcases h.2 with ⟨h1, -⟩ | ⟨g', cap, cur, h1, -, h3, -⟩
  · rw [e] at h1; cases h1
  · rw [e] at h1; cases h1
    rw [hn] at h3; cases h3
theorem OwnX.firm {n nb : Nat} {w w' : World} {a : Option Addr} {c : Nat} {x : List Int} (h : OwnX n nb w a c x) (hk : ∀ k, k < w.heap.size → k ≠ n → w'.heap[k]? = w.heap[k]?) : OwnX n nb w' a c x :=
  ⟨h.1.heap fun g e _ hg _ => hk g hg (h.2 g 0 e), h.2⟩
/-- What it holds when a round has returned. -/
def LeX (f : List Int → Bool) (n l B : Nat) (ds : List Deferred) (s : ByteArray) (w : World) (total : List (List Int)) (c : Code) (_pre : List (List Int)) (_C : Nat → Prop) (W : World) : Prop :=
  c = .ret ∧ ∃ a cp x, MB n l B ds s (.slice a x.length cp) 0 w W ∧ ValsX l W a (x.map (Value.int .i64)) ∧ (a = none → cp = 0) ∧ x.length ≤ cp ∧ total.find? f = some x ∧ OwnX l (n + 1 + 1 + 1) W a cp x
theorem LeX_firm (f : List Int → Bool) (n l B : Nat) (ds : List Deferred) (s : ByteArray) (w : World) (total : List (List Int)) (hl : w.heap.size ≤ l) (c : Code) : FirmX l (LeX f n l B ds s w total c) := by
  rintro pre C A B ⟨h0, a, cp, x, h1, h2, h3, h7, h5, h8⟩ hs ho ht hp hk
  exact ⟨h0, a, cp, x, h1.firm hl hs ho ht hp hk, h2.firm hs hk, h3, h7, h5, h8.firm hk⟩

theorem argL_put (nb : Nat) (x : List Int) (v : Value) (A : World) (l : Nat) (r o : Loop) (h : ArgL nb x v A) (hl : A.heap[l]? = some (.loop r)) : ArgL nb x v (A.putObj l (.loop o)) := by
  obtain ⟨a, c, e, hi, hn, hc, hw⟩ := h
  refine ⟨a, c, e, ?_, hn, hc, ((OwnX.of hw hl).firm (fun k _ hne => World.putObj_heap_other hne)).1⟩
  exact ((ValsX.of hi hl).firm (by simp) (fun k _ hne => World.putObj_heap_other hne)).1

theorem lsts_ok (n : Nat) : ∀ (d m f : Nat) (x : List Int), x ∈ lsts m f d → f + d ≤ n → x.length = m ∧ cutsB n f x = true := by
  intro d
  induction d with
  | zero => intro m f x hx hn; cases m <;> simp [lsts] at hx; subst hx; exact ⟨rfl, rfl⟩
  | succ d ih =>
    intro m f x hx hn
    cases m with
    | zero => simp [lsts] at hx; subst hx; exact ⟨rfl, rfl⟩
    | succ m =>
      simp only [lsts, List.mem_append, List.mem_map] at hx
      rcases hx with ⟨y, hy, rfl⟩ | hx
      · obtain ⟨h1, h2⟩ := ih m (f + 1) y hy (by omega)
        refine ⟨by simp [h1], ?_⟩
        simp only [cutsB, Bool.and_eq_true, decide_eq_true_eq]
        refine ⟨⟨by omega, by omega⟩, ?_⟩
        rw [← h2]; congr 1
      · obtain ⟨h1, h2⟩ := ih (m + 1) (f + 1) x hx (by omega)
        refine ⟨h1, ?_⟩
        cases x with
        | nil => rfl
        | cons c r =>
          simp only [cutsB, Bool.and_eq_true, decide_eq_true_eq] at h2 ⊢
          exact ⟨⟨by omega, h2.1.2⟩, h2.2⟩
theorem cutsB_le (n : Nat) (f g : Int) (x : List Int) (h : cutsB n f x = true) (hg : g ≤ f) : cutsB n g x = true := by
  cases x with
  | nil => rfl
  | cons c r =>
    simp only [cutsB, Bool.and_eq_true, decide_eq_true_eq] at h ⊢
    exact ⟨⟨by omega, h.1.2⟩, h.2⟩
theorem nxt_ok (n m f : Nat) (x : List Int) (h : x ∈ nxt n m f []) (hf : f ≤ n) : x.length = m ∧ cutsB n 0 x = true := by
  simp only [nxt, List.nil_append, List.map_id'] at h
  obtain ⟨h1, h2⟩ := lsts_ok n _ _ _ _ h (by omega)
  exact ⟨h1, cutsB_le n _ _ x h2 (by omega)⟩
theorem nxt_small (n m f : Nat) (x : List Int) (h : x ∈ nxt n m f []) (hf : n ≤ f) : x.length = m ∧ cutsB n 0 x = true := by
  simp only [nxt, List.nil_append, List.map_id', Nat.sub_eq_zero_of_le hf] at h
  cases m <;> simp [lsts] at h
  subst h; exact ⟨rfl, rfl⟩
theorem tryN_range (g : Nat → Option (List Int)) (n k : Nat) (h : k < n) : tryN g ((List.range n).drop k) = (g k).or (tryN g ((List.range n).drop (k + 1))) := by
  rw [List.drop_eq_getElem_cons (by simpa using h)]
  simp [tryN]

theorem MB.up {n l l' B : Nat} {ds : List Deferred} {s : ByteArray} {va : Value} {no : Int} {w A : World} (h : MB n l B ds s va no w A) (hl : l ≤ l') : MB n l' B ds s va no w A :=
  ⟨h.lb, h.marks, fun D hD => Nat.lt_of_lt_of_le (h.lt D hD) hl, Nat.lt_of_lt_of_le h.nl hl, h.nB, h.below⟩
theorem or_some {f : List Int → Bool} {l : List (List Int)} {o : Option (List Int)} {x : List Int} (h : l.find? f = some x) : ((l.find? f).or o).getD [] = x := by rw [h]; rfl

/-- Leaving with cuts. -/
theorem MB.leave {P : Program} {fn : Func} {tmps : Array Value} {n l B cp : Nat} {ds : List Deferred} {s : ByteArray} {a : Option Addr} {x : List Int} {no : Int} {w W : World} (h : MB n l B ds s (.slice a x.length cp) no w W)
    (hn : n = w.heap.size) (hBW : B ≤ W.heap.size)
    (hres : ∀ w', w'.cell? ⟨n + 1, 0, none⟩ = some (.slice a x.length cp) → w'.cell? ⟨n + 1 + 1, 0, none⟩ = some (.int .i64 no) → (results fn tmps).run P w' = .ok (.tuple #[.slice a x.length cp, .int .i64 no]) w')
    (hi : Ints W a x) (ha : a = none → cp = 0) (hc : x.length ≤ cp) (hw : OwnR (n + 1 + 1 + 1) W a cp x) : LeavesInM Fence.wide 0 P fn tmps (RetCutsO x no w) ds .returning W := by
  have hnB := h.nB
  refine leaves_marks (v := .tuple #[.slice a x.length cp, .int .i64 no]) ds W h.marks hBW (fun w' hs => ?_) (fun w' hs => ?_)
  · obtain ⟨-, r1, r2, -⟩ := (h.lb.shut hs).facts
    exact hres w' r1 r2
  · refine ⟨a, cp, rfl, hs.vals hi, ha, hc, h.below.trans (hs.below.mono (by omega)), ownsRow_base (hw.heap fun g _ _ _ hg => ?_) (by omega)⟩
    obtain ⟨cs, hcs⟩ := hg
    exact (hs.blk hcs).trans hcs.symm
theorem tryN_end (g : Nat → Option (List Int)) (n k : Nat) (h : ¬ k < n) : tryN g ((List.range n).drop k) = none := by
  rw [List.drop_eq_nil_of_le (by simp; omega)]; rfl

set_option maxHeartbeats 2000000 in
theorem least_evenO (s : ByteArray) (w : World) (hs : s.size ≤ 900) (h : evenChainB s.data.toList = true) :
    Calls Tryz.prog 19 #[.string s] w (RetCutsO ((tryN (firstB false s.data.toList) (List.range (kindsN s.data.toList + 1))).getD []) 0 w) := by
  have hok : s.data.toList.all okb = true := by simp [evenChainB, chainB] at h; simpa using h.1.1
  have H := hid h
  have HO := hid hok
  clear h hok
  obtain ⟨g, hg⟩ : ∃ g, g = firstB false s.data.toList := ⟨_, rfl⟩
  rw [← hg]
  obtain ⟨R, hR⟩ : ∃ R, R = (tryN g (List.range (kindsN s.data.toList + 1))).getD [] := ⟨_, rfl⟩
  rw [← hR]
  have HG := hid hg
  have HRR := hid hR
  clear hg hR
  refine (callsIn_wide (n := 0)).1 (callsIn_of_wp_marks Tryz.func19 rfl trivial ?_ rfl)
  simp only [Tryz.ntmps19, List.size_toArray, List.length_cons, List.length_nil, Nat.reduceAdd, Nat.reduceSub, Array.replicate_succ, Array.replicate_zero, List.push_toArray, List.append_toArray, List.nil_append, List.cons_append]
  gi_wp2_with fail
  refine ⟨trivial, rfl, (callsIn_wide.2 (isEven_any s _ (by omega))).mono ?_⟩
  rintro e w1 ⟨rfl, hb⟩
  rw [H.out]
  have hlb := (LB.new w s (.slice none 0 0) 0).below hb (by simp)
  have hbw : Below w.heap.size w w1 := ((((Below.refl _ w).alloc (Nat.le_refl _) _).alloc (by simp) _).alloc (by simp; omega) _).trans (hb.mono (by simp; omega))
  have hsz1 : w.heap.size + 1 + 1 < w1.heap.size := by have := hb.size; simp at this; omega
  obtain ⟨q0, q1, q2, f1, f2⟩ := hlb.facts
  have HLB := hid hlb
  clear hlb hb
  gi_wp2_with fail
  refine ⟨trivial, rfl, (callsIn_wide.2 (of_any s _ (by omega) HO.out)).mono ?_⟩
  rintro e w2 ⟨rfl, hb2⟩
  gi_wp2_with fail
  refine ⟨trivial, rfl, (callsIn_wide.2 (kinds_any (fun j => cn s.data.toList j) (fun _ => by simp) _)).mono ?_⟩
  rintro e w3 ⟨rfl, hb3⟩
  have hkn : mins (four fun j => (cn s.data.toList j : Int)) = (kindsN s.data.toList : Int) := by simp [mins, four, kindsN]; omega
  rw [hkn]
  have hk4 : kindsN s.data.toList ≤ 4 := by simp [kindsN]; omega
  have hb13 : Below w1.heap.size w1 w3 := hb2.trans (hb3.mono hb2.size)
  have HL3 := hid (HLB.out.below hb13 hsz1)
  have hb03 : Below w.heap.size w w3 := hbw.trans (hb13.mono hbw.size)
  have hsz3 : w.heap.size + 1 + 1 < w3.heap.size := Nat.lt_of_lt_of_le hsz1 hb13.size
  obtain ⟨K, hK⟩ : ∃ K, K = kindsN s.data.toList := ⟨_, rfl⟩
  rw [← hK] at hk4 ⊢
  have HK := hid hK
  clear hb2 hb3 hkn HLB q0 q1 q2 f1 f2 hK hbw hsz1 hb13
  gi_wp2_with fail
  refine wpIn_loop_ghost_k (fun m a W => ∃ (k : Nat) (ds : List Deferred) (u4 u14 u15 u16 u17 u18 u19 u25 : Value), k ≤ K + 1 ∧ m + k = K + 1 ∧ a = { tmps := #[.string s, .pointer (some { block := w.heap.size, off := 0 }), .pointer (some { block := w.heap.size + 1, off := 0 }), .pointer (some { block := w.heap.size + 1 + 1, off := 0 }), u4, undef, .string s, .bool true, .bool false, .string s, Value.agg
          #[Value.int IntKind.i64 ↑(cn s.data.toList 0), Value.int IntKind.i64 ↑(cn s.data.toList 1),
            Value.int IntKind.i64 ↑(cn s.data.toList 2), Value.int IntKind.i64 ↑(cn s.data.toList 3)], .int .i64 K, .int .i64 ((K : Int) + 1), .int .i64 k, u14, u15, u16, u17, u18, u19, undef, undef, undef, undef, undef, u25], defers := ds } ∧ Hid (MB w.heap.size W.heap.size (w.heap.size + 1 + 1 + 1) ds s (.slice none 0 0) 0 w W ∧ tryN g (List.range (K + 1)) = tryN g ((List.range (K + 1)).drop k)))
    (K + 1) ?_ ?_
  · exact ⟨0, [], _, _, _, _, _, _, _, _, by omega, rfl, rfl, hid ⟨⟨HL3.out, MarksOk.nil _ _, by simp, by omega, by omega, hb03⟩, rfl⟩⟩
  rintro m _ W ⟨k, ds, u4, u14, u15, u16, u17, u18, u19, u25, hkK, hm, rfl, HR⟩ J K2 hJ hK2
  obtain ⟨q0, q1, q2, f1, f2⟩ := HR.out.1.lb.facts
  have hWw : w.heap.size + 1 + 1 < W.heap.size := HR.out.1.nl
  have t13 : (decide ((k : Int) < (K : Int) + 1)) = decide (k < K + 1) := by rw [decide_eq_decide]; omega
  by_cases hk : k < K + 1
  · have t1 : decide (k < K + 1) = true := by simpa using hk
    gi_wp2_with fail
    refine ⟨trivial, rfl, (callsIn_wide.2 (lists_any (k : Int) 1 (s.size : Int) W)).mono ?_⟩
    rintro e W1 ⟨rfl, hW1⟩
    have hB1 : Blk W1 W.heap.size #[.int .i64 k] 3 := by rw [← hW1]; exact ((Blk.new W _ _).alloc _).alloc _
    have hB2 : Blk W1 (W.heap.size + 1) #[.int .i64 1] 3 := by rw [← hW1]; exact (Blk.mk' (by simp) rfl : Blk _ _ _ _).alloc _
    have hB3 : Blk W1 (W.heap.size + 1 + 1) #[.int .i64 s.size] 3 := by rw [← hW1]; exact Blk.mk' (by simp) rfl
    have hsz : W1.heap.size = W.heap.size + 3 := by rw [← hW1]; simp
    have hb1 : Below W.heap.size W W1 := by rw [← hW1]; exact (((Below.refl _ W).alloc (Nat.le_refl _) _).alloc (by simp) _).alloc (by simp; omega) _
    have H1 := hid hB1
    have H2 := hid hB2
    have H3 := hid hB3
    have HSZ := hid hsz
    have HMB := hid (HR.out.1.step hb1)
    have HJ := hid hJ
    clear hW1 q0 q1 q2 f1 f2 hJ HL3 hb03 hB1 hB2 hB3 hsz hb1
    gi_wp2_with fail
    refine wp_range (gf := 82) (lb := #[.pointer (some ⟨W.heap.size, 0, none⟩), .pointer (some ⟨W.heap.size + 1 + 1, 0, none⟩), .pointer (some ⟨W.heap.size + 1, 0, none⟩)]) rfl Tryz.call82 (ArgL (w.heap.size + 1 + 1 + 1)) (nxt s.size k 1 []) (fun b => b = w.heap.size + 1 ∨ b = w.heap.size + 1 + 1) ?_ (argL_put _) ?_
      (LeI (fairB s.data.toList) w.heap.size (W1.heap.size + 1) (w.heap.size + 1 + 1 + 1) ds s w) (LeX (fairB s.data.toList) w.heap.size (W1.heap.size + 1) (w.heap.size + 1 + 1 + 1) ds s w (nxt s.size k 1 [])) ?_ ?_ ?_
      (fun v => { tmps := #[.string s, .pointer (some { block := w.heap.size, off := 0 }), .pointer (some { block := w.heap.size + 1, off := 0 }), .pointer (some { block := w.heap.size + 1 + 1, off := 0 }), .int .i64 k, v, .string s, .bool true, .bool false, .string s, Value.agg
          #[Value.int IntKind.i64 ↑(cn s.data.toList 0), Value.int IntKind.i64 ↑(cn s.data.toList 1),
            Value.int IntKind.i64 ↑(cn s.data.toList 2), Value.int IntKind.i64 ↑(cn s.data.toList 3)], .int .i64 K, .int .i64 ((K : Int) + 1), .int .i64 k, .bool true, .int .i64 k, .int .i64 k, .string s, .int .i64 s.size, .func (.func 82) #[] #[.pointer (some { block := W.heap.size, off := 0 }), .pointer (some { block := W.heap.size + 1 + 1, off := 0 }), .pointer (some { block := W.heap.size + 1, off := 0 })], v, undef, undef, undef, undef, u25], defers := [] }) ?_ ?_ ?_ ?_
    · rintro b (rfl | rfl) <;> (rw [HSZ.out]; omega)
    · intro W2 hW2 hb2
      refine lists_iter (w.heap.size + 1 + 1 + 1) k 1 s.size _ _ _ _ W2 (by omega) (by omega) (by omega) (by have := hb2.size; rw [HSZ.out] at this; omega) ⟨H1.out.below hb2 (by rw [HSZ.out]; omega), ?_⟩ ⟨H3.out.below hb2 (by rw [HSZ.out]; omega), ?_⟩ (H2.out.below hb2 (by rw [HSZ.out]; omega))
      · rw [HSZ.out]; omega
      · rw [HSZ.out]; omega
    · exact LeI_firm _ _ _ _ _ _ _ (by rw [HSZ.out]; omega)
    · exact LeX_firm _ _ _ _ _ _ _ _ (by rw [HSZ.out]; omega)
    · intro W2 hb2
      exact ⟨(HMB.out.step hb2).up (by rw [HSZ.out]; omega), .inl rfl, .inr rfl, by simp⟩
    · intro v W2 K3 hK
      gi_wp2
      exact hK
    · rintro pre x post v C W2 hx ⟨h1, h2, h3, h4⟩ ⟨a, cp, rfl, hi, hn, hcp, hown⟩ hsz2 hC ⟨r, hr⟩
      have hmem : x ∈ nxt s.size k 1 [] := by rw [hx]; simp
      obtain ⟨hl1, hl2⟩ : x.length = k ∧ cutsB s.size 0 x = true := by
        by_cases h0 : 1 ≤ s.size
        · exact nxt_ok s.size k 1 x hmem h0
        · exact nxt_small s.size k 1 x hmem (by omega)
      obtain ⟨q0, q1, q2, f1, f2⟩ := h1.lb.facts
      have hlt := h1.lb.e.lt
      have HOWN := hid hown
      have HI := hid hi
      have HC := hid hC
      have HX := hid hx
      have HR2 := hid hr
      have HM := hid h1
      have HP4 := hid h4
      have HMEM := hid hmem
      have hl4 : x.length ≤ 5 := by omega
      obtain ⟨xl, hxl⟩ : ∃ xl, xl = x.length := ⟨_, rfl⟩
      have HXL := hid hxl
      rw [← hxl]
      clear hown hi hC hx hr h1 h4 hmem hl1 hxl q1 q2 f1 f2
      gi_wp2_with fail
      refine ⟨trivial, rfl, CallsIn.inRound _ ((callsIn_wide.2 (by rw [HXL.out]; exact isFair_any s a cp x W2 (by omega) HI.out hn hcp (by omega) hl2 HO.out)).mono ?_)⟩
      rintro e W3 ⟨rfl, hb3⟩
      obtain ⟨b, hb⟩ : ∃ b, b = fairB s.data.toList x := ⟨_, rfl⟩
      rw [← hb]
      have HB := hid hb
      have HM3 := hid (HM.out.step hb3)
      have HK3 := hid (KeepsX.of_below (M := C) hb3)
      have hi3 := hid (HI.out.below hb3 (Nat.le_refl _))
      have HOWN3 := hid (HOWN.out.heap fun g _ _ hg _ => hb3.block g hg)
      have hl3 : ∃ r, W3.heap[W1.heap.size + 1]? = some (Obj.loop r) := ⟨r, (hb3.block _ (lt_of_block HR2.out)).trans HR2.out⟩
      have HL3' := hid hl3
      obtain ⟨q0, q1, q2, f1, f2⟩ := HM3.out.lb.facts
      clear hb hb3 hl3
      cases b
      · gi_wp2_with fail
        refine ⟨C, Grew.refl HK3.out (fun k hk => (HC.out k hk).1), HM3.out, h2, h3, ?_⟩
        intro y hy
        rcases List.mem_append.1 hy with hy | hy
        · exact HP4.out y hy
        · cases List.mem_singleton.1 hy; exact HB.out.symm
      · gi_wp2_with fail
        have hk4 : KeepsX C W2 ((W3.setCell ⟨w.heap.size + 1, 0, none⟩ (.slice a xl cp)).setCell ⟨w.heap.size + 1 + 1, 0, none⟩ (.int .i64 0)) := (HK3.out.trans (KeepsX.setCell _ h2)).trans (KeepsX.setCell _ h3)
        refine ⟨C, Grew.refl hk4 (fun k hk => (HC.out k hk).1), rfl, a, cp, x, ?_, ?_, hn, hcp, ?_, ?_⟩
        · rw [← HXL.out]; exact HM3.out.put (Nat.le_refl _) _ _
        · obtain ⟨r, hr⟩ := HL3'.out
          refine ValsX.of (r := r) (HM3.out.lb.ints hi3.out _) ?_
          have := HM3.out.nl
          exact (Below.heap_setCell _ _ _ _ (by simp; omega)).trans ((Below.heap_setCell _ _ _ _ (by simp; omega)).trans hr)
        · rw [HX.out, List.find?_append, List.find?_eq_none.2 (fun y hy => by simp [HP4.out y hy])]
          simp [← HB.out]
        · obtain ⟨r, hr⟩ := HL3'.out
          have := HM3.out.nl
          refine OwnX.of (r := r) (HOWN3.out.heap fun g _ hg _ _ => ?_) ?_
          · exact (Below.heap_setCell _ _ _ _ (by simp; omega)).trans (Below.heap_setCell _ _ _ _ (by simp; omega))
          · exact (Below.heap_setCell _ _ _ _ (by simp; omega)).trans ((Below.heap_setCell _ _ _ _ (by simp; omega)).trans hr)
    · rintro C W2 hsz2 ⟨h1, h2, h3, h4⟩ hD
      have HM := hid h1
      have HD := hid hD
      have H4 := hid h4
      clear h1 h2 h3 hD h4
      gi_wp2_with fail
      have hfn : g k = none := by
        rw [HG.out, firstB, List.find?_eq_none]
        intro y hy
        rw [bytes_len] at hy
        simpa [testB] using H4.out y hy
      have hD1 : w.heap.size + 1 + 1 + 1 ≤ W1.heap.size := by rw [HSZ.out]; omega
      have hD2 : ∀ k, { target := Target.collected k, args := #[] } ∈ ds → k ≠ W1.heap.size := fun D hD => by
        have := HMB.out.lt D hD
        rw [HSZ.out]; omega
      refine Handed.intro (m - 1) (by omega) (HJ.out _ _ _ ⟨k + 1, _, _, _, _, _, _, _, _, _, by omega, by omega, rfl, hid ⟨HM.out.cons hD1 HD.out hD2 (by omega) (by omega), ?_⟩⟩)
      rw [HR.out.2, tryN_range _ _ _ hk, hfn]; rfl
    · rintro c pre x post C W2 hsz2 hx ⟨rfl, a, cp, y, hm, hv, hn, hcp, hf, hox⟩ hD
      have HM := hid hm
      have HD := hid hD
      have HV := hid hv
      have HX := hid hx
      have HF := hid hf
      have HOX := hid hox
      clear hm hv hD hx hf hox
      gi_wp2_with fail
      have hgk : R = y := by
        rw [HRR.out, ← HK.out, HR.out.2, tryN_range _ _ _ hk, HG.out, firstB, bytes_len]
        exact or_some HF.out
      have hD1 : w.heap.size + 1 + 1 + 1 ≤ W1.heap.size := by rw [HSZ.out]; omega
      have hD2 : ∀ k, { target := Target.collected k, args := #[] } ∈ ds → k ≠ W1.heap.size := fun D hD => by
        have := HMB.out.lt D hD
        rw [HSZ.out]; omega
      subst hgk
      exact (HM.out.cons hD1 HD.out hD2 (Nat.le_refl _) (by omega)).leave rfl (by omega) (fun w' r1 r2 => by simp [results, Tryz.results19, go_sem, r1, r2]) HV.out.1 hn hcp HOX.out.1
  · have t1 : decide (k < K + 1) = false := by simpa using hk
    have h0 : R = [] := by rw [HRR.out, ← HK.out, HR.out.2, tryN_end _ _ _ hk]; rfl
    have HP := hid (HR.out.1.put (Nat.le_refl _) (.slice none 0 0) 0)
    gi_wp2_with fail
    subst h0
    refine HP.out.leave (x := []) rfl (by simp [World.setCell]; omega) (fun w' r1 r2 => by simp [results, Tryz.results19, go_sem, r1, r2]) (Ints.nil _ _) (fun _ => rfl) (Nat.le_refl _) (OwnR.nil _ _)
theorem least_even (s : ByteArray) (w : World) (hs : s.size ≤ 900) (h : evenChainB s.data.toList = true) :
    Calls Tryz.prog 19 #[.string s] w (RetCuts ((tryN (firstB false s.data.toList) (List.range (kindsN s.data.toList + 1))).getD []) 0 w) := (least_evenO s w hs h).mono fun _ _ h => h.ret
end Go.Proofs.YtkmpdcckgibkhaaGreat
