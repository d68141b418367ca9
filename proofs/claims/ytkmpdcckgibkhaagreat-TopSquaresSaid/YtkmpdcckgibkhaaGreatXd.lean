/-
  Contracts of the package marks, turned from the texts of the laws of marks (all square-free words).
-/
import Derived.Test.YtkmpdcckgibkhaaGreatXc
namespace Go.Proofs.YtkmpdcckgibkhaaGreat.Mk
open Go.RowKit
section
attribute [local go_sem] Oper.semAt_some
/-- The boxes that the iterator's functions have captured. -/
structure Env (lp n k bn bY bk be : Nat) (C : Nat → Prop) (W : World) : Prop where
  n : Blk W bn #[.int .i64 n] 3 ∧ ¬ C bn
  y : Blk W bY #[.func (.yield lp) #[] #[]] 41 ∧ ¬ C bY
  k : Blk W bk #[.int .i64 k] 3 ∧ ¬ C bk
  e : Blk W be #[.func (.func 112) #[] #[.pointer (some ⟨bn, 0, none⟩), .pointer (some ⟨bY, 0, none⟩), .pointer (some ⟨bk, 0, none⟩), .pointer (some ⟨be, 0, none⟩)]] 41 ∧ ¬ C be
theorem Env.step {lp n k bn bY bk be : Nat} {C C' : Nat → Prop} {W W' : World} (h : Env lp n k bn bY bk be C W) (hs : Step C W C' W') : Env lp n k bn bY bk be C' W' :=
  ⟨h.n.1.step hs h.n.2, h.y.1.step hs h.y.2, h.k.1.step hs h.k.2, h.e.1.step hs h.e.2⟩
/-- What is handed over is the word. -/
def ArgS (x : List UInt8) (v : Value) (_ : World) : Prop := v = .string (mkS x)
/-- What extend comes to. -/
def ExtPost (J Jx : List (List UInt8) → (Nat → Prop) → World → Prop) (total nxt : List (List UInt8)) (C : Nat → Prop) (W : World) (e : Ending) (B : World) : Prop :=
  ∃ b, e = .returned (.bool b) ∧ (b = true → ∃ C', Step C W C' B ∧ J nxt C' B) ∧ (b = false → ∃ C' pre x post, total = pre ++ x :: post ∧ Jx (pre ++ [x]) C' B)
/-- A letter more. -/
def addL (l : List UInt8) (c : Nat) : List UInt8 := l ++ [UInt8.ofNat (97 + c)]
theorem addL_len (l : List UInt8) (c : Nat) : (addL l c).length = l.length + 1 := by simp [addL]
/-- The words with m letters more, none of whose beginnings behind l ends with a square, in their order. -/
def frW (k : Nat) : Nat → List UInt8 → List (List UInt8)
  | 0, l => [l]
  | m + 1, l => (List.range k).flatMap fun c => if endsB (addL l c) then [] else frW k m (addL l c)
/-- .. of these, those whose next letter is the c-th or a later one. -/
def frC (k m : Nat) (l : List UInt8) (c : Nat) : List (List UInt8) := ((List.range k).drop c).flatMap fun c => if endsB (addL l c) then [] else frW k m (addL l c)
theorem frC_end (k m : Nat) (l : List UInt8) (c : Nat) (h : k ≤ c) : frC k m l c = [] := by
  unfold frC; rw [List.drop_eq_nil_of_le (by simpa using h)]; rfl
theorem frC_step (k m : Nat) (l : List UInt8) (c : Nat) (h : c < k) : frC k m l c = (if endsB (addL l c) then [] else frW k m (addL l c)) ++ frC k m l (c + 1) := by
  unfold frC
  rw [List.drop_eq_getElem_cons (by simpa using h), List.flatMap_cons, List.getElem_range]
theorem encode_letter (c : Nat) (h : c ≤ 20) : Utf8.encode (97 + (c : Int)) = mkS [UInt8.ofNat (97 + c)] := by
  have hv : Utf8.valid (97 + (c : Int)) = true := by simp [Utf8.valid]; omega
  unfold Utf8.encode
  rw [hv, show (97 + (c : Int)).toNat = 97 + c by omega]
  simp only [if_true, show 97 + c < 128 by omega]
  rfl
theorem letS_add (l : List UInt8) (c : Nat) : mkS l ++ letS c = mkS (addL l c) := mkS_append _ _
theorem run_letter (c : Nat) (w : World) (h : c ≤ 20) : (convert 21 9 (.int .i32 (97 + (c : Int)))).run Tryz.prog w = .ok (.string (letS c)) w := by
  rw [run_convert_int_string w 21 9 .i32 _ (by simp [Tryz.underlying21]) Tryz.underlying9, encode_letter c h]; rfl
section
variable (lp n k bn bY bk be : Nat) (J Jx : List (List UInt8) → (Nat → Prop) → World → Prop) (total : List (List UInt8))
/-- The call of yield. -/
def YieldOk : Prop := ∀ pre x post v C A, total = pre ++ x :: post → J pre C A → (∀ k, C k → k < A.heap.size) → ArgS x v A → YieldAt Fence.wide 0 Tryz.prog lp #[v] A fun e B => ∃ C', Grew C C' A B ∧
      ((e = .returned (.bool true) ∧ J (pre ++ [x]) C' B) ∨ (e = .returned (.bool false) ∧ Jx (pre ++ [x]) C' B))
set_option maxHeartbeats 400000 in
theorem ext_zero (hY : YieldOk lp J Jx total) (l : List UInt8) (pre post : List (List UInt8)) (C : Nat → Prop) (W : World) (hl : l.length = n) (hE : Env lp n k bn bY bk be C W) (hC : ∀ k, C k → k < W.heap.size)
    (ht : total = pre ++ l :: post) (hj : J pre C W) :
    Calls Tryz.prog 112 #[.string (mkS l), .pointer (some ⟨bn, 0, none⟩), .pointer (some ⟨bY, 0, none⟩), .pointer (some ⟨bk, 0, none⟩), .pointer (some ⟨be, 0, none⟩)] W (ExtPost J Jx total (pre ++ [l]) C W) := by
  have q1 := hE.n.1.cell 0
  have q2 := hE.y.1.cell 0
  simp only [List.getElem?_toArray, List.getElem?_cons_zero] at q1 q2
  have h0 : (((mkS l).size : Int) == (n : Int)) = true := by rw [mkS_size]; exact beq_iff_eq.2 (by omega)
  obtain ⟨fn, tmps, assign, body, hy, hR⟩ := hY pre l post (.string (mkS l)) C W ht hj hC rfl
  have HR := hid hR
  have HT := hid ht
  have HL := hid hl
  clear hR ht hE hj hl hY hC
  refine (callsIn_wide (n := 0)).1 (callsIn_of_wp Tryz.func112 rfl trivial ?_ rfl)
  simp only [Tryz.ntmps112, List.size_toArray, List.length_cons, List.length_nil, Nat.reduceAdd, Nat.reduceSub, Array.replicate_succ, Array.replicate_zero, List.push_toArray, List.append_toArray, List.nil_append, List.cons_append]
  gi_wp2
  refine ⟨rfl, HR.out.mono ?_⟩
  rintro e B ⟨C', hG, (⟨rfl, hJ'⟩ | ⟨rfl, hJx'⟩)⟩
  · have H1 := hid (And.intro hG hJ')
    clear hG hJ'
    gi_wp2
    go_ret
    exact ⟨true, rfl, fun _ => ⟨C', Step.grew H1.out.1, H1.out.2⟩, fun h => nomatch h⟩
  · have H1 := hid hJx'
    clear hG hJx'
    gi_wp2
    go_ret
    exact ⟨false, rfl, (fun h => nomatch h), fun _ => ⟨C', pre, l, post, HT.out, H1.out⟩⟩
set_option maxHeartbeats 2000000 in
theorem ext_any (hJ : Firm J) (hn : n ≤ 100) (hk : k ≤ 4) (hY : YieldOk lp J Jx total) : ∀ (m : Nat) (l : List UInt8) (pre post : List (List UInt8)) (C : Nat → Prop) (W : World), l.length + m = n → Env lp n k bn bY bk be C W → (∀ k, C k → k < W.heap.size) →
    total = pre ++ frW k m l ++ post → J pre C W →
    Calls Tryz.prog 112 #[.string (mkS l), .pointer (some ⟨bn, 0, none⟩), .pointer (some ⟨bY, 0, none⟩), .pointer (some ⟨bk, 0, none⟩), .pointer (some ⟨be, 0, none⟩)] W (ExtPost J Jx total (pre ++ frW k m l) C W) := by
  intro m
  induction m with
  | zero =>
    intro l pre post C W hl hE hC ht hj
    exact ext_zero lp n k bn bY bk be J Jx total hY l pre post C W (by omega) hE hC (by simpa [frW] using ht) hj
  | succ m ih =>
    intro l pre post C W hl hE hC ht hj
    have IH := hid ih
    have q1 := hE.n.1.cell 0
    have q3 := hE.k.1.cell 0
    simp only [List.getElem?_toArray, List.getElem?_cons_zero] at q1 q3
    have h0 : (((mkS l).size : Int) == (n : Int)) = false := by rw [mkS_size]; exact beq_eq_false_iff_ne.2 (by omega)
    have hll : l.length ≤ 99 := by omega
    have HL := hid hl
    have HES := hid (And.intro hE hC)
    have HT := hid ht
    have HJ := hid hj
    clear ih hE ht hj hC hl hY
    go_enter Tryz.func112, Tryz.ntmps112
    go_wp2_with fail
    go_loopw [17] (fun i wr => ∃ (c : Nat) (C' : Nat → Prop) (pre' : List (List UInt8)), i = .int .i64 c ∧ c ≤ k ∧ Hid (Step C W C' wr ∧ J pre' C' wr ∧ pre' ++ frC k m l c = pre ++ frW k (m + 1) l)) (fun i _ => k - (intOf i).toNat)
    case atStart => exact ⟨0, C, pre, rfl, by omega, Step.refl HES.out.2, HJ.out, rfl⟩
    case round =>
      obtain ⟨c, C', pre', rfl, hc, HK⟩ := hrel
      by_cases hlt : c < k
      · have hcv := fun W => run_letter c W (by omega)
        have hsz : ¬ 9223372036854775807 < (mkS l).size + (letS c).size := by rw [mkS_size, letS_size]; omega
        have hadd := letS_add l c
        obtain ⟨t, ht⟩ : ∃ t, t = addL l c := ⟨_, rfl⟩
        rw [← ht] at hadd
        have htl : t.length = l.length + 1 := by rw [ht, addL_len]
        have HTT := hid ht
        have HN := hid (ends_any (mkS t) wr (by rw [mkS_size]; omega))
        rw [mkS_data] at HN
        have hEk := HES.out.1.step HK.out.1
        have HTL := hid htl
        clear ht htl
        by_cases he : endsB t = true
        · rw [he] at HN
          have hfin : Hid (∀ w1, Below wr.heap.size wr w1 → Step C W C' w1 ∧ J pre' C' w1 ∧ pre' ++ frC k m l (c + 1) = pre ++ frW k (m + 1) l) := by
            intro w1 hb
            refine ⟨HK.out.1.trans (Step.below hb HK.out.1.lt), hJ _ _ _ _ HK.out.2.1 hb, ?_⟩
            have := HK.out.2.2
            rw [frC_step k m l c hlt, ← HTT.out, if_pos he] at this
            exact this
          clear he hEk
          go_wp2_with fail
          refine HN.out.mono ?_
          rintro e w1 ⟨rfl, hb⟩
          go_wp2_with fail
          exact ⟨⟨c + 1, C', pre', by go_num, by omega, hid (hfin.out w1 hb)⟩, by simp [intOf]; omega⟩
        · have he' : endsB t = false := by simpa using he
          rw [he'] at HN
          have hfin : Hid (frC k m l c = frW k m t ++ frC k m l (c + 1)) := by
            have := frC_step k m l c hlt
            rw [← HTT.out, if_neg he] at this
            exact this
          have q4 := hEk.e.1.cell 0
          have hbe := hEk.e.1.lt
          simp only [List.getElem?_toArray, List.getElem?_cons_zero] at q4
          have CALL := hid (fun (w1 : World) (hb : Below wr.heap.size wr w1) => IH.out t pre' (frC k m l (c + 1) ++ post) C' w1 (by have := HTL.out; have := HL.out; omega) (hEk.step (Step.below hb HK.out.1.lt)) (Step.below hb HK.out.1.lt).lt
            (by rw [HT.out, ← HK.out.2.2, hfin.out]; simp) (hJ _ _ _ _ HK.out.2.1 hb))
          clear he he' hEk
          go_wp2_with fail
          refine HN.out.mono ?_
          rintro e w1 ⟨rfl, hb⟩
          have q5 := (hb.cell (p := ⟨be, 0, none⟩) hbe).trans q4
          go_wp2_with fail
          refine (CALL.out w1 hb).mono ?_
          rintro e w2 ⟨b, rfl, hp1, hp2⟩
          cases b
          · have HP2 := hid (hp2 rfl)
            clear hp1 hp2 CALL
            go_wp2_with fail
            go_ret
            exact ⟨false, rfl, (fun h => nomatch h), fun _ => HP2.out⟩
          · obtain ⟨C'', hst, hj⟩ := hp1 rfl
            have HF : Hid (Step C W C'' w2 ∧ J (pre' ++ frW k m t) C'' w2 ∧ (pre' ++ frW k m t) ++ frC k m l (c + 1) = pre ++ frW k (m + 1) l) :=
              ⟨HK.out.1.trans ((Step.below hb HK.out.1.lt).trans hst), hj, by rw [List.append_assoc, ← hfin.out]; exact HK.out.2.2⟩
            clear hp1 hp2 CALL hst hj
            go_wp2_with fail
            exact ⟨⟨c + 1, C'', _, by go_num, by omega, HF⟩, by simp [intOf]; omega⟩
      · have hfin : pre' = pre ++ frW k (m + 1) l := by rw [← HK.out.2.2, frC_end k m l c (by omega), List.append_nil]
        have HF := hid hfin
        clear hfin
        go_wp2_with fail
        go_ret
        exact ⟨true, rfl, fun _ => ⟨C', HK.out.1, by rw [← HF.out]; exact HK.out.2.1⟩, fun h => nomatch h⟩
end
set_option maxHeartbeats 400000 in
theorem free_any (n k : Int) (w : World) :
    Calls Tryz.prog 79 #[.int .i64 n, .int .i64 k] w fun e w' =>
      e = .returned (.func (.func 111) #[] #[.pointer (some ⟨w.heap.size, 0, none⟩), .pointer (some ⟨w.heap.size + 1, 0, none⟩)]) ∧
      (w.alloc (.cells #[.int .i64 n] 3)).alloc (.cells #[.int .i64 k] 3) = w' := by
  go_enter Tryz.func79, Tryz.ntmps79
  go_wp2
  go_ret
  exact ⟨rfl, rfl⟩
set_option maxHeartbeats 400000 in
theorem free_iter (n k bn bk : Nat) (C₀ : Nat → Prop) (W : World) (hn : n ≤ 100) (hk : k ≤ 4) (h1 : Blk W bn #[.int .i64 n] 3 ∧ ¬ C₀ bn) (h2 : Blk W bk #[.int .i64 k] 3 ∧ ¬ C₀ bk) :
    Iter Tryz.prog 111 #[.pointer (some ⟨bn, 0, none⟩), .pointer (some ⟨bk, 0, none⟩)] ArgS (frW k n []) C₀ W := by
  intro l J Jx hJ hJx hY hC h0
  have hb1 := h1.1.lt
  have hb2 := h2.1.lt
  obtain ⟨W2, hW2⟩ : ∃ W2, W2 = ((W.alloc (.cells #[.func (.yield l) #[] #[]] 41)).alloc (.cells #[.func (.func 112) #[] #[.pointer (some ⟨bn, 0, none⟩), .pointer (some ⟨W.heap.size, 0, none⟩), .pointer (some ⟨bk, 0, none⟩), .pointer (some ⟨W.heap.size + 1, 0, none⟩)]] 41)) := ⟨_, rfl⟩
  have hb : Below W.heap.size W W2 := by rw [hW2]; exact ((Below.refl _ W).alloc (Nat.le_refl _) _).alloc (by simp) _
  have hst := Step.below hb hC
  have hE : Env l n k bn W.heap.size bk (W.heap.size + 1) C₀ W2 := by
    refine ⟨h1.1.step hst h1.2, ⟨?_, fun h => by have := hC _ h; omega⟩, h2.1.step hst h2.2, ⟨?_, fun h => by have := hC _ h; omega⟩⟩
    · rw [hW2]; exact (Blk.new W _ _).alloc _
    · rw [hW2]; exact Blk.mk' (by simp) rfl
  have CL := hid (ext_any l n k bn W.heap.size bk (W.heap.size + 1) J Jx (frW k n []) hJ hn hk hY n [] [] [] C₀ W2 (by simp) hE hst.lt (by simp) (hJ _ _ _ _ h0 hb))
  subst hW2
  clear h1 h2 hE hst hY hJ hJx h0 hC hb
  go_enter Tryz.func111, Tryz.ntmps111
  go_wp2_with fail
  refine CL.out.mono ?_
  rintro e B ⟨b, rfl, p1, p2⟩
  have P1 := hid p1
  have P2 := hid p2
  clear p1 p2 CL
  go_wp2
  go_end0
  refine ⟨⟨_, rfl⟩, ?_⟩
  cases b
  · obtain ⟨C', pre, x, post, h1, h2⟩ := P2.out rfl
    exact ⟨C', .inr ⟨pre, x, post, h1, h2⟩⟩
  · obtain ⟨C', _, h2⟩ := P1.out rfl
    exact ⟨C', .inl (by simpa using h2)⟩
theorem argS_put (x : List UInt8) (v : Value) (A : World) (l : Nat) (r o : Loop) (h : ArgS x v A) (_ : A.heap[l]? = some (.loop r)) : ArgS x v (A.putObj l (.loop o)) := h
end
section
attribute [local go_sem] Oper.semAt_some
/-- The boxes of the two results. -/
structure RB (b : Nat) (s : ByteArray) (no : Int) (W : World) : Prop where
  s : Blk W b #[.string s] 9
  e : Blk W (b + 1) #[.int .i64 no] 25
theorem RB.new (w : World) (s : ByteArray) (no : Int) : RB w.heap.size s no ((w.alloc (.cells #[.string s] 9)).alloc (.cells #[.int .i64 no] 25)) :=
  ⟨(Blk.new w _ _).alloc _, Blk.mk' (by simp) rfl⟩
theorem RB.below {b : Nat} {s : ByteArray} {no : Int} {W W' : World} {B : Nat} (h : RB b s no W) (hb : Below B W W') (hB : b + 1 < B) : RB b s no W' :=
  ⟨h.s.below hb (by omega), h.e.below hb hB⟩
theorem RB.facts {b : Nat} {s : ByteArray} {no : Int} {W : World} (h : RB b s no W) :
    W.cell? ⟨b, 0, none⟩ = some (.string s) ∧ W.cell? ⟨b + 1, 0, none⟩ = some (.int .i64 no) ∧ W.frozen? ⟨b, 0, none⟩ = false ∧ W.frozen? ⟨b + 1, 0, none⟩ = false := by
  have a := h.s.cell 0
  have c := h.e.cell 0
  simp only [List.getElem?_toArray, List.getElem?_cons_zero] at a c
  exact ⟨a, c, h.s.free 0, h.e.free 0⟩
theorem RB.put {b : Nat} {s : ByteArray} {no : Int} {W : World} (h : RB b s no W) (s' : ByteArray) (no' : Int) : RB b s' no' ((W.setCell ⟨b, 0, none⟩ (.string s')).setCell ⟨b + 1, 0, none⟩ (.int .i64 no')) :=
  ⟨(h.s.set 0 _).other _ (by simp) _, (h.e.other _ (by simp) _).set 0 _⟩
theorem RB.shut {B b : Nat} {s : ByteArray} {no : Int} {W W' : World} (h : RB b s no W) (hs : ShutM B W W') : RB b s no W' := ⟨hs.blk h.s, hs.blk h.e⟩
theorem RB.firm {b : Nat} {s : ByteArray} {no : Int} {W W' : World} {l : Nat} (h : RB b s no W) (hl : b + 1 < l) (hk : ∀ k, k < W.heap.size → k ≠ l → W'.heap[k]? = W.heap[k]?) : RB b s no W' :=
  ⟨(hk _ h.s.lt (by omega)).trans h.s, (hk _ h.e.lt (by omega)).trans h.e⟩
theorem FirmX.rb {β : Type} {l b : Nat} {s : ByteArray} {no : Int} (hl : b + 1 < l) : FirmX l (fun (_ : β) _ W => RB b s no W) :=
  fun _ _ _ _ h _ _ _ _ hk => h.firm hl hk
def RetFirst (o : Option (List UInt8)) (w : World) (e : Ending) (w' : World) : Prop :=
  e = .returned (match o with | some x => .tuple #[.string (mkS x), .int .i64 0] | none => .tuple #[.string ⟨#[]⟩, .int .i64 6]) ∧ Below w.heap.size w w'
set_option maxHeartbeats 4000000 in
theorem first_yes (n k : Nat) (w : World) (hn : n ≤ 60) (hk : 1 ≤ k) (hk2 : k ≤ 4) :
    Calls Tryz.prog 42 #[.int .i64 n, .int .i64 k] w (RetFirst (frW k n []).head? w) := by
  have hd1 : (decide (0 ≤ (n : Int)) && decide ((n : Int) ≤ 60)) = true := by simp; omega
  have hd2 : (decide (1 ≤ (k : Int)) && decide ((k : Int) ≤ 4)) = true := by simp; omega
  obtain ⟨T, hT⟩ : ∃ T, T = frW k n [] := ⟨_, rfl⟩
  rw [← hT]
  have HT := hid hT
  clear hT
  refine (callsIn_wide (n := 0)).1 (callsIn_of_wp_marks Tryz.func42 rfl trivial ?_ rfl)
  simp only [Tryz.ntmps42, List.size_toArray, List.length_cons, List.length_nil, Nat.reduceAdd, Nat.reduceSub, Array.replicate_succ, Array.replicate_zero, List.push_toArray, List.append_toArray, List.nil_append, List.cons_append]
  gi_wp2_with fail
  refine ⟨trivial, rfl, (callsIn_wide.2 (within_any _ _ _ _)).mono ?_⟩
  rintro e w1 ⟨rfl, rfl⟩
  rw [hd1]
  gi_wp2_with fail
  refine ⟨trivial, rfl, (callsIn_wide.2 (within_any _ _ _ _)).mono ?_⟩
  rintro e w1 ⟨rfl, rfl⟩
  rw [hd2]
  gi_wp2_with fail
  refine ⟨trivial, rfl, (callsIn_wide.2 (free_any _ _ _)).mono ?_⟩
  rintro e W1 ⟨rfl, hW1⟩
  have hR : RB w.heap.size ⟨#[]⟩ 0 W1 := by
    rw [← hW1]
    exact (RB.new w ⟨#[]⟩ 0).below (((Below.refl (w.heap.size + 2) _).alloc (by simp) _).alloc (by simp) _) (by omega)
  have hs0 : ((w.alloc (.cells #[.string ⟨#[]⟩] 9)).alloc (.cells #[.int .i64 0] 25)).heap.size = w.heap.size + 2 := by simp
  have hB1 : Blk W1 (w.heap.size + 2) #[.int .i64 n] 3 := by rw [← hW1]; exact (Blk.mk' (by simp) rfl : Blk _ _ _ _).alloc _
  have hB2 : Blk W1 (w.heap.size + 2 + 1) #[.int .i64 k] 3 := by rw [← hW1]; exact Blk.mk' (by simp) rfl
  have hsz : W1.heap.size = w.heap.size + 4 := by rw [← hW1]; simp
  have hb1 : Below w.heap.size w W1 := by rw [← hW1]; exact ((((Below.refl _ w).alloc (Nat.le_refl _) _).alloc (by simp) _).alloc (by simp; omega) _).alloc (by simp; omega) _
  rw [hs0]
  have HR := hid hR
  have HB1 := hid hB1
  have HB2 := hid hB2
  have HSZ := hid hsz
  have HBW := hid hb1
  clear hW1 hR hs0 hB1 hB2 hsz hb1
  gi_wp2_with fail
  refine wp_range (gf := 111) (lb := #[.pointer (some ⟨w.heap.size + 2, 0, none⟩), .pointer (some ⟨w.heap.size + 2 + 1, 0, none⟩)]) rfl Tryz.call111 ArgS T (fun b => b = w.heap.size ∨ b = w.heap.size + 1) ?_ argS_put ?_
    (fun pre C W => RB w.heap.size ⟨#[]⟩ 0 W ∧ (C w.heap.size ∧ C (w.heap.size + 1) ∧ pre = []) ∧ Below w.heap.size w W)
    (fun c pre C W => ∃ x, RB w.heap.size (mkS x) 0 W ∧ (c = .ret ∧ T.head? = some x) ∧ Below w.heap.size w W) ?_ ?_ ?_
    (fun v => { tmps := #[.int .i64 n, .int .i64 k, undef, undef, .pointer (some { block := w.heap.size, off := 0 }), .pointer (some { block := w.heap.size + 1, off := 0 }), v, .int .i64 n, .bool true, .bool false, .bool false, .int .i64 k, .bool true, .bool false, .bool false, .int .i64 n, .int .i64 k, .func (.func 111) #[] #[.pointer (some { block := w.heap.size + 2, off := 0 }), .pointer (some { block := w.heap.size + 2 + 1, off := 0 })], v, undef], defers := [] }) ?_ ?_ ?_ ?_
  · rintro b (rfl | rfl) <;> (rw [HSZ.out]; omega)
  · intro W2 hW2 hb2
    rw [HT.out]
    refine free_iter n k _ _ _ W2 (by omega) (by omega) ⟨HB1.out.below hb2 (by rw [HSZ.out]; omega), ?_⟩ ⟨HB2.out.below hb2 (by rw [HSZ.out]; omega), ?_⟩
    · rw [HSZ.out]; omega
    · rw [HSZ.out]; omega
  · have hs := HSZ.out
    exact FirmX.and (FirmX.rb (by omega)) (FirmX.and (FirmX.pure _) (FirmX.below (Nat.le_refl _) (by omega)))
  · intro c
    have hs := HSZ.out
    exact FirmX.ex fun x => FirmX.and (FirmX.rb (by omega)) (FirmX.and (FirmX.pure _) (FirmX.below (Nat.le_refl _) (by omega)))
  · intro W2 hb2
    exact ⟨HR.out.below hb2 (by rw [HSZ.out]; omega), ⟨.inl rfl, .inr rfl, rfl⟩, HBW.out.trans (hb2.mono (by rw [HSZ.out]; omega))⟩
  · intro v W2 K3 hK
    gi_wp2
    exact hK
  · rintro pre x post v C W2 hx ⟨h1, ⟨h2, h2', rfl⟩, h3⟩ rfl hsz2 hC ⟨r, hr⟩
    have hhd : T.head? = some x := by rw [hx]; rfl
    obtain ⟨q1, q2, f1, f2⟩ := h1.facts
    have H1 := hid h1
    have H3 := hid h3
    have HC := hid hC
    have HH := hid hhd
    clear h1 h3 hC hx hr hhd
    gi_wp2_with fail
    refine ⟨C, Grew.refl ((KeepsX.setCell _ h2).trans (KeepsX.setCell _ h2')) (fun k hk => (HC.out k hk).1), x, H1.out.put _ _, ⟨rfl, HH.out⟩, (H3.out.setCell (Nat.le_refl _) _).setCell (by simp) _⟩
  · rintro C W2 hsz2 ⟨h1, ⟨h2, h2', hT0⟩, h3⟩ hD
    obtain ⟨q1, q2, f1, f2⟩ := h1.facts
    have H1 := hid h1
    have H3 := hid h3
    have HD := hid hD
    have H0 := hid hT0
    clear h1 h3 hD hT0
    gi_wp2_with fail
    have hm : MarksOk w.heap.size [{ target := .collected W1.heap.size, args := #[] }] ((W2.setCell ⟨w.heap.size, 0, none⟩ (.string ⟨#[]⟩)).setCell ⟨w.heap.size + 1, 0, none⟩ (.int .i64 6)) := by
      refine (MarksOk.nil _ _).cons (by rw [HSZ.out]; omega) ?_ (fun k hk => by simp at hk)
      have := HSZ.out
      exact (Below.heap_setCell _ _ _ _ (by simp; omega)).trans ((Below.heap_setCell _ _ _ _ (by simp; omega)).trans HD.out)
    refine leaves_marks (v := .tuple #[.string ⟨#[]⟩, .int .i64 6]) _ _ hm (by simp [World.setCell]; have := HSZ.out; omega) (fun w' hs => ?_) (fun w' hs => ?_)
    · obtain ⟨r1, r2, -, -⟩ := ((H1.out.put ⟨#[]⟩ 6).shut hs).facts
      simp [results, Tryz.results42, go_sem, r1, r2]
    · refine ⟨by rw [H0.out]; rfl, ?_⟩
      exact ((H3.out.setCell (Nat.le_refl _) _).setCell (by simp) _).trans (hs.below.mono (Nat.le_refl _))
  · rintro c pre x post C W2 hsz2 hx ⟨y, h1, ⟨rfl, h2⟩, h3⟩ hD
    have H1 := hid h1
    have H3 := hid h3
    have HD := hid hD
    have H0 := hid h2
    clear h1 h3 hD h2 hx
    gi_wp2_with fail
    have hm : MarksOk w.heap.size [{ target := .collected W1.heap.size, args := #[] }] W2 := (MarksOk.nil _ _).cons (by rw [HSZ.out]; omega) HD.out (fun k hk => by simp at hk)
    refine leaves_marks (v := .tuple #[.string (mkS y), .int .i64 0]) _ W2 hm (by have := HSZ.out; omega) (fun w' hs => ?_) (fun w' hs => ?_)
    · obtain ⟨r1, r2, -, -⟩ := (H1.out.shut hs).facts
      simp [results, Tryz.results42, go_sem, r1, r2]
    · exact ⟨by rw [H0.out], H3.out.trans (hs.below.mono (Nat.le_refl _))⟩
end
theorem Tryz.info5 : (Tryz.prog.info? 5).map (fun i => (i.zero, i.size, i.bytes)) = some (some (.int .u8 0), 1, 1) := by kernel_rfl

end Go.Proofs.YtkmpdcckgibkhaaGreat.Mk
