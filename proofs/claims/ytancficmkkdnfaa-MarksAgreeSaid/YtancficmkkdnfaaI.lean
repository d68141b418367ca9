/-
  Walks: all square-free words, one by one.
-/
import Derived.Test.YtancficmkkdnfaaH
import Derived.Test.YtancficmkkdnfaaRange
import Derived.Laws.EntriesVeiled
import Derived.Laws.Runes
namespace Go.Proofs.Ytancficmkkdnfaa
open Go.RowKit
attribute [local go_sem] Oper.semAt_some

/-- From one moment to a later one: what was not the caller's is not now, and lies as it lay. -/
structure Step (C : Nat → Prop) (W : World) (C' : Nat → Prop) (W' : World) : Prop where
  size : W.heap.size ≤ W'.heap.size
  old : ∀ k, k < W.heap.size → ¬ C k → ¬ C' k ∧ W'.heap[k]? = W.heap[k]?
  lt : ∀ k, C' k → k < W'.heap.size
theorem Step.trans {C C' C'' : Nat → Prop} {A B D : World} (h : Step C A C' B) (k : Step C' B C'' D) : Step C A C'' D :=
  ⟨Nat.le_trans h.size k.size, fun i hi hc => by
    have h1 := h.old i hi hc
    have h2 := k.old i (Nat.lt_of_lt_of_le hi h.size) h1.1
    exact ⟨h2.1, h2.2.trans h1.2⟩, k.lt⟩
theorem Step.refl {C : Nat → Prop} {A : World} (h : ∀ k, C k → k < A.heap.size) : Step C A C A := ⟨Nat.le_refl _, fun _ _ hc => ⟨hc, rfl⟩, h⟩
theorem Step.below {C : Nat → Prop} {A B : World} (hb : Below A.heap.size A B) (h : ∀ k, C k → k < A.heap.size) : Step C A C B :=
  ⟨hb.size, fun k hk hc => ⟨hc, hb.block k hk⟩, fun k hk => Nat.lt_of_lt_of_le (h k hk) hb.size⟩
theorem Step.grew {C C' : Nat → Prop} {A B : World} (h : Grew C C' A B) : Step C A C' B :=
  ⟨h.keep.size, fun k hk hc => ⟨fun h' => (h.old k h').elim hc (fun h'' => by omega), h.keep.same k hk hc⟩, h.lt⟩
theorem Blk.step {C C' : Nat → Prop} {A B : World} {b : Nat} {cs : Array Value} {t : TypeId} (h : Blk A b cs t) (hs : Step C A C' B) (hc : ¬ C b) : Blk B b cs t ∧ ¬ C' b :=
  ⟨((hs.old b h.lt hc).2).trans h, (hs.old b h.lt hc).1⟩

/-- The boxes that the iterator's functions have captured. -/
structure Env (lp n k bn bY bk be : Nat) (C : Nat → Prop) (W : World) : Prop where
  n : Blk W bn #[.int .i64 n] 3 ∧ ¬ C bn
  y : Blk W bY #[.func (.yield lp) #[] #[]] 30 ∧ ¬ C bY
  k : Blk W bk #[.int .i64 k] 3 ∧ ¬ C bk
  e : Blk W be #[.func (.func 68) #[] #[.pointer (some ⟨bn, 0, none⟩), .pointer (some ⟨bY, 0, none⟩), .pointer (some ⟨bk, 0, none⟩), .pointer (some ⟨be, 0, none⟩)]] 30 ∧ ¬ C be
theorem Env.step {lp n k bn bY bk be : Nat} {C C' : Nat → Prop} {W W' : World} (h : Env lp n k bn bY bk be C W) (hs : Step C W C' W') : Env lp n k bn bY bk be C' W' :=
  ⟨h.n.1.step hs h.n.2, h.y.1.step hs h.y.2, h.k.1.step hs h.k.2, h.e.1.step hs h.e.2⟩

/-- What is handed over is the word. -/
def ArgS (x : List UInt8) (v : Value) (_ : World) : Prop := v = .string (mkS x)

/-- What extend comes to. -/
def ExtPost (J Jx : List (List UInt8) → (Nat → Prop) → World → Prop) (total nxt : List (List UInt8)) (C : Nat → Prop) (W : World) (e : Ending) (B : World) : Prop :=
  ∃ b, e = .returned (.bool b) ∧ (b = true → ∃ C', Step C W C' B ∧ J nxt C' B) ∧ (b = false → ∃ C' pre x post, total = pre ++ x :: post ∧ Jx (pre ++ [x]) C' B)

/-- A letter more. -/
def addL (l : List UInt8) (c : Nat) : List UInt8 := l ++ [UInt8.ofNat (97 + c)]
theorem addL_len (l : List UInt8) (c : Nat) : (addL l c).length = l.length + 1 := by simp [addL]
/-- The words with m letters more, none of whose beginnings behind l ends with a square, in their order. -/
def frW (k : Nat) : Nat → List UInt8 → List (List UInt8)
  | 0, l => [l]
  | m + 1, l => (List.range k).flatMap fun c => if endsB (addL l c) then [] else frW k m (addL l c)
/-- .. of these, those whose next letter is the c-th or a later one. -/
def frC (k m : Nat) (l : List UInt8) (c : Nat) : List (List UInt8) := ((List.range k).drop c).flatMap fun c => if endsB (addL l c) then [] else frW k m (addL l c)
theorem frC_zero (k m : Nat) (l : List UInt8) : frC k m l 0 = frW k (m + 1) l := rfl
theorem frC_end (k m : Nat) (l : List UInt8) (c : Nat) (h : k ≤ c) : frC k m l c = [] := by
  unfold frC; rw [List.drop_eq_nil_of_le (by simpa using h)]; rfl
theorem frC_step (k m : Nat) (l : List UInt8) (c : Nat) (h : c < k) : frC k m l c = (if endsB (addL l c) then [] else frW k m (addL l c)) ++ frC k m l (c + 1) := by
  unfold frC
  rw [List.drop_eq_getElem_cons (by simpa using h), List.flatMap_cons, List.getElem_range]

theorem encode_letter (c : Nat) (h : c ≤ 20) : Utf8.encode (97 + (c : Int)) = mkS [UInt8.ofNat (97 + c)] := by
  have hv : Utf8.valid (97 + (c : Int)) = true := by simp [Utf8.valid]; omega
  unfold Utf8.encode
  rw [hv, show (97 + (c : Int)).toNat = 97 + c by omega]
  simp only [if_true, show 97 + c < 128 by omega]
  rfl
/-- A letter as a string. -/
def letS (c : Nat) : ByteArray := mkS [UInt8.ofNat (97 + c)]
theorem letS_size (c : Nat) : (letS c).size = 1 := rfl
theorem letS_add (l : List UInt8) (c : Nat) : mkS l ++ letS c = mkS (addL l c) := mkS_append _ _
theorem run_letter (c : Nat) (w : World) (h : c ≤ 20) : (convert 21 9 (.int .i32 (97 + (c : Int)))).run Try.prog w = .ok (.string (letS c)) w := by
  rw [run_convert_int_string w 21 9 .i32 _ (by simp [Try.underlying21]) Try.underlying9, encode_letter c h]; rfl

section
variable (lp n k bn bY bk be : Nat) (J Jx : List (List UInt8) → (Nat → Prop) → World → Prop) (total : List (List UInt8))

/-- The call of yield. -/
def YieldOk : Prop := ∀ pre x post v C A, total = pre ++ x :: post → J pre C A → (∀ k, C k → k < A.heap.size) → ArgS x v A → YieldAt Fence.wide 0 Try.prog lp #[v] A fun e B => ∃ C', Grew C C' A B ∧
      ((e = .returned (.bool true) ∧ J (pre ++ [x]) C' B) ∨ (e = .returned (.bool false) ∧ Jx (pre ++ [x]) C' B))

set_option maxHeartbeats 400000 in
theorem ext_zero (hY : YieldOk lp J Jx total) (l : List UInt8) (pre post : List (List UInt8)) (C : Nat → Prop) (W : World) (hl : l.length = n) (hE : Env lp n k bn bY bk be C W) (hC : ∀ k, C k → k < W.heap.size)
    (ht : total = pre ++ l :: post) (hj : J pre C W) :
    Calls Try.prog 68 #[.string (mkS l), .pointer (some ⟨bn, 0, none⟩), .pointer (some ⟨bY, 0, none⟩), .pointer (some ⟨bk, 0, none⟩), .pointer (some ⟨be, 0, none⟩)] W (ExtPost J Jx total (pre ++ [l]) C W) := by
  have q1 := hE.n.1.cell 0
  have q2 := hE.y.1.cell 0
  simp only [List.getElem?_toArray, List.getElem?_cons_zero] at q1 q2
  have h0 : (((mkS l).size : Int) == (n : Int)) = true := by rw [mkS_size]; exact beq_iff_eq.2 (by omega)
  obtain ⟨fn, tmps, assign, body, hy, hR⟩ := hY pre l post (.string (mkS l)) C W ht hj hC rfl
  have HR := hid hR
  have HT := hid ht
  have HL := hid hl
  clear hR ht hE hj hl hY hC
  refine (callsIn_wide (n := 0)).1 (callsIn_of_wp Try.func68 rfl trivial ?_ rfl)
  simp only [Try.ntmps68, List.size_toArray, List.length_cons, List.length_nil, Nat.reduceAdd, Nat.reduceSub, Array.replicate_succ, Array.replicate_zero, List.push_toArray, List.append_toArray, List.nil_append, List.cons_append]
  gi_wp2
  refine ⟨rfl, HR.out.mono ?_⟩
  rintro e B ⟨C', hG, (⟨rfl, hJ'⟩ | ⟨rfl, hJx'⟩)⟩
  · have H1 := hid (And.intro hG hJ')
    clear hG hJ'
    gi_wp2
    go_ret
    exact ⟨true, rfl, fun _ => ⟨C', Step.grew H1.out.1, H1.out.2⟩, fun h => nomatch h⟩
  · have H1 := hid hJx'
    clear hG hJx'
    gi_wp2
    go_ret
    exact ⟨false, rfl, (fun h => nomatch h), fun _ => ⟨C', pre, l, post, HT.out, H1.out⟩⟩

set_option maxHeartbeats 2000000 in
theorem ext_any (hJ : Firm J) (hn : n ≤ 100) (hk : k ≤ 4) (hY : YieldOk lp J Jx total) : ∀ (m : Nat) (l : List UInt8) (pre post : List (List UInt8)) (C : Nat → Prop) (W : World), l.length + m = n → Env lp n k bn bY bk be C W → (∀ k, C k → k < W.heap.size) →
    total = pre ++ frW k m l ++ post → J pre C W →
    Calls Try.prog 68 #[.string (mkS l), .pointer (some ⟨bn, 0, none⟩), .pointer (some ⟨bY, 0, none⟩), .pointer (some ⟨bk, 0, none⟩), .pointer (some ⟨be, 0, none⟩)] W (ExtPost J Jx total (pre ++ frW k m l) C W) := by
  intro m
  induction m with
  | zero =>
    intro l pre post C W hl hE hC ht hj
    exact ext_zero lp n k bn bY bk be J Jx total hY l pre post C W (by omega) hE hC (by simpa [frW] using ht) hj
  | succ m ih =>
    intro l pre post C W hl hE hC ht hj
    have IH := hid ih
    have q1 := hE.n.1.cell 0
    have q3 := hE.k.1.cell 0
    simp only [List.getElem?_toArray, List.getElem?_cons_zero] at q1 q3
    have h0 : (((mkS l).size : Int) == (n : Int)) = false := by rw [mkS_size]; exact beq_eq_false_iff_ne.2 (by omega)
    have hll : l.length ≤ 99 := by omega
    have HL := hid hl
    have HES := hid (And.intro hE hC)
    have HT := hid ht
    have HJ := hid hj
    clear ih hE ht hj hC hl hY
    go_enter Try.func68, Try.ntmps68
    go_wp2_with fail
    go_loopw [17] (fun i wr => ∃ (c : Nat) (C' : Nat → Prop) (pre' : List (List UInt8)), i = .int .i64 c ∧ c ≤ k ∧ Hid (Step C W C' wr ∧ J pre' C' wr ∧ pre' ++ frC k m l c = pre ++ frW k (m + 1) l)) (fun i _ => k - (intOf i).toNat)
    case atStart => exact ⟨0, C, pre, rfl, by omega, Step.refl HES.out.2, HJ.out, rfl⟩
    case round =>
      obtain ⟨c, C', pre', rfl, hc, HK⟩ := hrel
      by_cases hlt : c < k
      · have hcv := fun W => run_letter c W (by omega)
        have hsz : ¬ 9223372036854775807 < (mkS l).size + (letS c).size := by rw [mkS_size, letS_size]; omega
        have hadd := letS_add l c
        obtain ⟨t, ht⟩ : ∃ t, t = addL l c := ⟨_, rfl⟩
        rw [← ht] at hadd
        have htl : t.length = l.length + 1 := by rw [ht, addL_len]
        have HTT := hid ht
        have HN := hid (ends_any (mkS t) wr (by rw [mkS_size]; omega))
        rw [mkS_data] at HN
        have hEk := HES.out.1.step HK.out.1
        have HTL := hid htl
        clear ht htl
        by_cases he : endsB t = true
        · rw [he] at HN
          have hfin : Hid (∀ w1, Below wr.heap.size wr w1 → Step C W C' w1 ∧ J pre' C' w1 ∧ pre' ++ frC k m l (c + 1) = pre ++ frW k (m + 1) l) := by
            intro w1 hb
            refine ⟨HK.out.1.trans (Step.below hb HK.out.1.lt), hJ _ _ _ _ HK.out.2.1 hb, ?_⟩
            have := HK.out.2.2
            rw [frC_step k m l c hlt, ← HTT.out, if_pos he] at this
            exact this
          clear he hEk
          go_wp2_with fail
          refine HN.out.mono ?_
          rintro e w1 ⟨rfl, hb⟩
          go_wp2_with fail
          exact ⟨⟨c + 1, C', pre', by go_num, by omega, hid (hfin.out w1 hb)⟩, by simp [intOf]; omega⟩
        · have he' : endsB t = false := by simpa using he
          rw [he'] at HN
          have hfin : Hid (frC k m l c = frW k m t ++ frC k m l (c + 1)) := by
            have := frC_step k m l c hlt
            rw [← HTT.out, if_neg he] at this
            exact this
          have q4 := hEk.e.1.cell 0
          have hbe := hEk.e.1.lt
          simp only [List.getElem?_toArray, List.getElem?_cons_zero] at q4
          have CALL := hid (fun (w1 : World) (hb : Below wr.heap.size wr w1) => IH.out t pre' (frC k m l (c + 1) ++ post) C' w1 (by have := HTL.out; have := HL.out; omega) (hEk.step (Step.below hb HK.out.1.lt)) (Step.below hb HK.out.1.lt).lt
            (by rw [HT.out, ← HK.out.2.2, hfin.out]; simp) (hJ _ _ _ _ HK.out.2.1 hb))
          clear he he' hEk
          go_wp2_with fail
          refine HN.out.mono ?_
          rintro e w1 ⟨rfl, hb⟩
          have q5 := (hb.cell (p := ⟨be, 0, none⟩) hbe).trans q4
          go_wp2_with fail
          refine (CALL.out w1 hb).mono ?_
          rintro e w2 ⟨b, rfl, hp1, hp2⟩
          cases b
          · have HP2 := hid (hp2 rfl)
            clear hp1 hp2 CALL
            go_wp2_with fail
            go_ret
            exact ⟨false, rfl, (fun h => nomatch h), fun _ => HP2.out⟩
          · obtain ⟨C'', hst, hj⟩ := hp1 rfl
            have HF : Hid (Step C W C'' w2 ∧ J (pre' ++ frW k m t) C'' w2 ∧ (pre' ++ frW k m t) ++ frC k m l (c + 1) = pre ++ frW k (m + 1) l) :=
              ⟨HK.out.1.trans ((Step.below hb HK.out.1.lt).trans hst), hj, by rw [List.append_assoc, ← hfin.out]; exact HK.out.2.2⟩
            clear hp1 hp2 CALL hst hj
            go_wp2_with fail
            exact ⟨⟨c + 1, C'', _, by go_num, by omega, HF⟩, by simp [intOf]; omega⟩
      · have hfin : pre' = pre ++ frW k (m + 1) l := by rw [← HK.out.2.2, frC_end k m l c (by omega), List.append_nil]
        have HF := hid hfin
        clear hfin
        go_wp2_with fail
        go_ret
        exact ⟨true, rfl, fun _ => ⟨C', HK.out.1, by rw [← HF.out]; exact HK.out.2.1⟩, fun h => nomatch h⟩
end

set_option maxHeartbeats 400000 in
theorem free_any (n k : Int) (w : World) :
    Calls Try.prog 58 #[.int .i64 n, .int .i64 k] w fun e w' =>
      e = .returned (.func (.func 67) #[] #[.pointer (some ⟨w.heap.size, 0, none⟩), .pointer (some ⟨w.heap.size + 1, 0, none⟩)]) ∧
      (w.alloc (.cells #[.int .i64 n] 3)).alloc (.cells #[.int .i64 k] 3) = w' := by
  go_enter Try.func58, Try.ntmps58
  go_wp2
  go_ret
  exact ⟨rfl, rfl⟩

set_option maxHeartbeats 400000 in
theorem free_iter (n k bn bk : Nat) (C₀ : Nat → Prop) (W : World) (hn : n ≤ 100) (hk : k ≤ 4) (h1 : Blk W bn #[.int .i64 n] 3 ∧ ¬ C₀ bn) (h2 : Blk W bk #[.int .i64 k] 3 ∧ ¬ C₀ bk) :
    Iter Try.prog 67 #[.pointer (some ⟨bn, 0, none⟩), .pointer (some ⟨bk, 0, none⟩)] ArgS (frW k n []) C₀ W := by
  intro l J Jx hJ hJx hY hC h0
  have hb1 := h1.1.lt
  have hb2 := h2.1.lt
  obtain ⟨W2, hW2⟩ : ∃ W2, W2 = ((W.alloc (.cells #[.func (.yield l) #[] #[]] 30)).alloc (.cells #[.func (.func 68) #[] #[.pointer (some ⟨bn, 0, none⟩), .pointer (some ⟨W.heap.size, 0, none⟩), .pointer (some ⟨bk, 0, none⟩), .pointer (some ⟨W.heap.size + 1, 0, none⟩)]] 30)) := ⟨_, rfl⟩
  have hb : Below W.heap.size W W2 := by rw [hW2]; exact ((Below.refl _ W).alloc (Nat.le_refl _) _).alloc (by simp) _
  have hst := Step.below hb hC
  have hE : Env l n k bn W.heap.size bk (W.heap.size + 1) C₀ W2 := by
    refine ⟨h1.1.step hst h1.2, ⟨?_, fun h => by have := hC _ h; omega⟩, h2.1.step hst h2.2, ⟨?_, fun h => by have := hC _ h; omega⟩⟩
    · rw [hW2]; exact (Blk.new W _ _).alloc _
    · rw [hW2]; exact Blk.mk' (by simp) rfl
  have CL := hid (ext_any l n k bn W.heap.size bk (W.heap.size + 1) J Jx (frW k n []) hJ hn hk hY n [] [] [] C₀ W2 (by simp) hE hst.lt (by simp) (hJ _ _ _ _ h0 hb))
  subst hW2
  clear h1 h2 hE hst hY hJ hJx h0 hC hb
  go_enter Try.func67, Try.ntmps67
  go_wp2_with fail
  refine CL.out.mono ?_
  rintro e B ⟨b, rfl, p1, p2⟩
  have P1 := hid p1
  have P2 := hid p2
  clear p1 p2 CL
  go_wp2
  go_end0
  refine ⟨⟨_, rfl⟩, ?_⟩
  cases b
  · obtain ⟨C', pre, x, post, h1, h2⟩ := P2.out rfl
    exact ⟨C', .inr ⟨pre, x, post, h1, h2⟩⟩
  · obtain ⟨C', _, h2⟩ := P1.out rfl
    exact ⟨C', .inl (by simpa using h2)⟩

theorem argS_put (x : List UInt8) (v : Value) (A : World) (l : Nat) (r o : Loop) (h : ArgS x v A) (_ : A.heap[l]? = some (.loop r)) : ArgS x v (A.putObj l (.loop o)) := h
end Go.Proofs.Ytancficmkkdnfaa
