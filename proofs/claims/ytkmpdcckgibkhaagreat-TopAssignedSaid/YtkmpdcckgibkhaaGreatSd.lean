/-
  Walks: even chains, kinds.
-/
import Derived.Test.YtkmpdcckgibkhaaGreatSc
namespace Go.Proofs.YtkmpdcckgibkhaaGreat
open Go.RowKit

set_option maxHeartbeats 400000 in
theorem collect_any (f : Nat → Int) (B : Nat) (w : World) (hB : Blk w B (arr4 f) 82) :
    Calls Tryz.prog 67 #[.func (.func 104) #[] #[.pointer (some ⟨B, 0, none⟩)]] w (RetInts (four f) w) := by
  have HC := hid (appendSeq_any f B w hB)
  clear hB
  go_enter Tryz.func67, Tryz.ntmps67
  go_wp2_with fail
  refine HC.out.mono ?_
  rintro e w1 ⟨a, c, rfl, hr, hb⟩
  have HR := hid hr
  clear hr
  go_wp2
  go_ret
  exact ⟨a, c, rfl, HR.out, hb⟩

set_option maxHeartbeats 400000 in
theorem isEven1_any (n : Nat) (w : World) :
    Calls Tryz.prog 69 #[.int .i64 n] w fun e w' => e = .returned (.bool (n % 2 == 1)) ∧ w = w' := by
  go_enter Tryz.func69, Tryz.ntmps69
  go_wp2
  go_ret
  exact ⟨ret_bool (by rw [Bool.eq_iff_iff]; simp; omega), rfl⟩

def oddAny (l : List Nat) : Bool := l.any (fun n => n % 2 == 1)

set_option maxHeartbeats 400000 in
theorem indexInt_any (a : Option Addr) (c : Nat) (l : List Nat) (w : World) (hl : l.length ≤ 1000) (ha : Ints w a (l.map (Int.ofNat ·))) :
    Calls Tryz.prog 86 #[.slice a l.length c, .func (.func 69) #[] #[]] w (RetIdx (oddAny l) w) := by
  have HA := hid ha
  clear ha
  go_enter Tryz.func86, Tryz.ntmps86
  go_wp2_with fail
  go_loop [8] (fun i => ∃ k : Nat, k ≤ l.length ∧ i = .int .i64 k ∧ Hid (oddAny l = oddAny (l.drop k))) (fun i => l.length - (intOf i).toNat)
  case atStart => exact ⟨0, Nat.zero_le _, rfl, rfl⟩
  case round =>
    obtain ⟨k, hk, rfl, HK⟩ := hrel
    by_cases hlt : k < l.length
    · obtain ⟨x, hx, hx2⟩ : ∃ x, l[k]? = some x ∧ l.drop k = x :: l.drop (k + 1) := ⟨l[k], List.getElem?_eq_getElem hlt, by rw [List.drop_eq_getElem_cons hlt]⟩
      obtain ⟨g, o, rfl, hg, hcell⟩ := HA.out.at (by simp; omega)
      have hq : w.cell? ⟨g, o + k, none⟩ = some (.int .i64 x) := hcell k x (by rw [List.getElem?_map, hx]; rfl)
      have H2 := hid hx2
      clear hcell hx hx2
      by_cases ho : x % 2 = 1
      · have hfin : oddAny l = true := by rw [HK.out, H2.out]; simp [oddAny, ho]
        have HF := hid hfin
        have HO : Hid ((x % 2 == 1) = true) := by simp [Hid, ho]
        clear hfin ho
        go_wp2_with (go_at_call 69; refine (isEven1_any x _).mono ?_; rintro e w1 ⟨rfl, rfl⟩; rw [HO.out])
        go_ret
        exact ⟨k, rfl, by rw [HF.out]; simp, rfl⟩
      · have hfin : oddAny l = oddAny (l.drop (k + 1)) := by rw [HK.out, H2.out]; simp [oddAny, ho]
        have HF := hid hfin
        have HO : Hid ((x % 2 == 1) = false) := by simp [Hid]; omega
        clear hfin ho
        go_wp2_with (go_at_call 69; refine (isEven1_any x _).mono ?_; rintro e w1 ⟨rfl, rfl⟩; rw [HO.out])
        go_round
        case rel => exact ⟨k + 1, by omega, by go_num, HF⟩
        case measure => simp [intOf]; omega
    · have hfin : oddAny l = false := by rw [HK.out, List.drop_eq_nil_of_le (by omega)]; rfl
      have HF := hid hfin
      clear hfin
      go_wp2
      go_ret
      exact ⟨-1, rfl, by rw [HF.out]; rfl, rfl⟩

set_option maxHeartbeats 400000 in
theorem containsInt_any (a : Option Addr) (c : Nat) (l : List Nat) (w : World) (hl : l.length ≤ 1000) (ha : Ints w a (l.map (Int.ofNat ·))) :
    Calls Tryz.prog 54 #[.slice a l.length c, .func (.func 69) #[] #[]] w fun e w' => e = .returned (.bool (oddAny l)) ∧ w = w' := by
  have HC := hid (indexInt_any a c l w hl ha)
  clear ha
  go_enter Tryz.func54, Tryz.ntmps54
  go_wp2_with fail
  refine HC.out.mono ?_
  rintro e w1 ⟨r, rfl, hr, rfl⟩
  have HR := hid hr
  clear hr
  go_wp2
  go_ret
  exact ⟨ret_bool HR.out, rfl⟩

/-- An even chain. -/
def evenChainB (l : List UInt8) : Bool := chainB l && evenB l

set_option maxHeartbeats 400000 in
theorem isEven_any (s : ByteArray) (w : World) (hs : s.size ≤ 1000000) :
    Calls Tryz.prog 38 #[.string s] w fun e w' => e = .returned (.bool (evenChainB s.data.toList)) ∧ Below w.heap.size w w' := by
  cases hch : chainB s.data.toList with
  | false =>
    have HC := hid hch
    clear hch
    go_enter Tryz.func38, Tryz.ntmps38
    go_wp2_with (go_at_call 66; refine (isChain_any s _ hs).mono ?_; rintro e w1 ⟨rfl, hb⟩; rw [HC.out])
    go_ret
    exact ⟨ret_bool (by simp [evenChainB, HC.out]), hb⟩
  | true =>
    have hok : s.data.toList.all okb = true := by simp [chainB] at hch; simpa using hch.1
    have HC := hid hch
    have HO := hid hok
    clear hch hok
    have hfin : evenChainB s.data.toList = !oddAny [cn s.data.toList 0, cn s.data.toList 1, cn s.data.toList 2, cn s.data.toList 3] := by
      rw [Bool.eq_iff_iff]; simp [evenChainB, HC.out, evenB, oddAny]; omega
    have HF := hid hfin
    clear hfin
    go_enter Tryz.func38, Tryz.ntmps38
    go_wp2_with (go_at_call 66; refine (isChain_any s _ hs).mono ?_; rintro e w1 ⟨rfl, hb⟩; rw [HC.out])
    refine (of_any s w1 hs HO.out).mono ?_
    rintro e w2 ⟨rfl, hb2⟩
    go_wp2_with fail
    refine (each_any _ _ _ _ w2).mono ?_
    rintro e w3 ⟨rfl, hw3⟩
    have hB3 : Blk w3 w2.heap.size (arr4 fun j => cn s.data.toList j) 82 := by rw [← hw3]; exact Blk.new _ _ _
    have hb3 : Below w2.heap.size w2 w3 := by rw [← hw3]; exact (Below.refl _ _).alloc (Nat.le_refl _) _
    clear hw3
    have HB3 := hid hB3
    clear hB3
    go_wp2_with fail
    refine (collect_any _ _ w3 HB3.out).mono ?_
    rintro e w4 ⟨a4, c4, rfl, hr4, hb4⟩
    have HR4 := hid hr4
    clear hr4
    go_wp2_with fail
    refine (containsInt_any a4 c4 [cn s.data.toList 0, cn s.data.toList 1, cn s.data.toList 2, cn s.data.toList 3] w4 (by simp) HR4.out).mono ?_
    rintro e w5 ⟨rfl, rfl⟩
    go_wp2
    go_ret
    exact ⟨ret_bool HF.out.symm, hb.trans ((hb2.mono hb.size).trans ((hb3.mono (Nat.le_trans hb.size hb2.size)).trans (hb4.mono (Nat.le_trans hb.size (Nat.le_trans hb2.size hb3.size)))))⟩

attribute [local go_sem] Oper.semAt_some

def mins : List Int → Int
  | [] => 0
  | x :: r => min x 1 + mins r
theorem mins_append (a b : List Int) : mins (a ++ b) = mins a + mins b := by
  induction a with
  | nil => simp [mins]
  | cons x r ih => simp [mins, ih]; omega
theorem mins_bd (l : List Int) (h : ∀ x ∈ l, 0 ≤ x) : 0 ≤ mins l ∧ mins l ≤ l.length := by
  induction l with
  | nil => simp [mins]
  | cons x r ih =>
    have := ih (fun y hy => h y (List.mem_cons_of_mem _ hy))
    have := h x (by simp)
    simp [mins]; omega

/-- What kinds holds between two rounds. -/
def KindI (w : World) (s : List Int) (C : Nat → Prop) (W : World) : Prop :=
  Blk W (w.heap.size + 1) #[.int .i64 (mins s)] 3 ∧ C (w.heap.size + 1) ∧ Below w.heap.size w W

theorem KindI_firm (l : Nat) (w : World) (hl : w.heap.size + 1 < l) : FirmX l (KindI w) :=
  (FirmX.blk _ (by omega)).and ((FirmX.pure fun _ C => C (w.heap.size + 1)).and (FirmX.below (Nat.le_refl _) (by omega)))

set_option maxHeartbeats 400000 in
theorem kinds_any (f : Nat → Int) (hf : ∀ j, 0 ≤ f j) (w : World) :
    Calls Tryz.prog 45 #[.agg #[.int .i64 (f 0), .int .i64 (f 1), .int .i64 (f 2), .int .i64 (f 3)]] w fun e w' => e = .returned (.int .i64 (mins (four f))) ∧ Below w.heap.size w w' := by
  have HF := hid hf
  clear hf
  refine (callsIn_wide (n := 0)).1 (callsIn_of_wp_marks Tryz.func45 rfl trivial ?_ rfl)
  simp only [Tryz.ntmps45, List.size_toArray, List.length_cons, List.length_nil, Nat.reduceAdd, Nat.reduceSub, Array.replicate_succ, Array.replicate_zero, List.push_toArray, List.append_toArray, List.nil_append, List.cons_append]
  gi_wp2_with fail
  refine ⟨trivial, rfl, ?_⟩
  refine (callsIn_wide.2 (each_any _ _ _ _ _)).mono ?_
  rintro e w2 ⟨rfl, hw2⟩
  have hB2 : Blk w2 (w.heap.size + 1 + 1) (arr4 f) 82 := by rw [← hw2]; exact Blk.mk' (by simp) rfl
  have hB1 : Blk w2 (w.heap.size + 1) #[.int .i64 0] 3 := by rw [← hw2]; exact (Blk.mk' (by simp) rfl : Blk (_) _ _ _).alloc _
  have hsz : w2.heap.size = w.heap.size + 3 := by rw [← hw2]; simp
  have hb : Below w.heap.size w w2 := by rw [← hw2]; exact (((Below.refl _ w).alloc (Nat.le_refl _) _).alloc (by simp) _).alloc (by simp; omega) _
  clear hw2
  have HB2 := hid hB2
  have HB1 := hid hB1
  have HSZ := hid hsz
  clear hB1 hB2 hsz
  gi_wp2
  refine wp_range (gf := 104) (lb := #[.pointer (some ⟨w.heap.size + 1 + 1, 0, none⟩)]) rfl Tryz.call104 (fun x v _ => v = Value.int .i64 x) (four f) (fun k => k = w.heap.size + 1) ?_ (fun x v A l r o h _ => h) ?_
    (KindI w) (fun _ _ _ _ => False) ?_ (fun _ => FirmX.false) ?_
    (fun v => { tmps := #[.agg #[.int .i64 (f 0), .int .i64 (f 1), .int .i64 (f 2), .int .i64 (f 3)], .pointer (some ⟨w.heap.size, 0, none⟩), .int .i64 0, .pointer (some ⟨w.heap.size + 1, 0, none⟩), v, .agg #[.int .i64 (f 0), .int .i64 (f 1), .int .i64 (f 2), .int .i64 (f 3)], .func (.func 104) #[] #[.pointer (some ⟨w.heap.size + 1 + 1, 0, none⟩)], v, undef, undef, undef, undef, undef], defers := [] }) ?_ ?_ ?_ ?_
  · rintro k rfl; rw [HSZ.out]; omega
  · intro W hW hb'
    exact each_iter f _ _ W (HB2.out.below hb' (by rw [HSZ.out]; omega))
  · rw [HSZ.out]; exact KindI_firm _ _ (by omega)
  · intro W hb'
    rw [HSZ.out] at hb'
    exact ⟨HB1.out.below hb' (by omega), rfl, hb.trans (hb'.mono (by omega))⟩
  · intro v W K hK
    gi_wp2
    exact hK
  · rintro pre x post v C W hx ⟨h1, h2, h3⟩ rfl hsz hC -
    have hall : ∀ y ∈ four f, 0 ≤ y := by
      intro y hy; simp [four] at hy; rcases hy with rfl | rfl | rfl | rfl <;> exact HF.out _
    have hx0 : 0 ≤ x := hall x (by rw [hx]; simp)
    have hm := mins_bd pre (fun y hy => hall y (by rw [hx]; simp [hy]))
    have hlen : pre.length ≤ 4 := by
      have := congrArg List.length hx
      simp [four] at this; omega
    have hc := h1.cell 0
    have hf := h1.free 0
    simp only [List.getElem?_toArray, List.getElem?_cons_zero] at hc
    have hm2 : mins (pre ++ [x]) = mins pre + min x 1 := by rw [mins_append]; simp [mins]
    have H1 := hid h1
    have HX := hid hx
    have HC := hid hC
    have HM := hid hm2
    have H4 : Hid (∀ v, Grew C C W (W.setCell ⟨w.heap.size + 1, 0, none⟩ v)) := fun v => Grew.refl (KeepsX.setCell _ h2) (fun k hk => (HC.out k hk).1)
    clear h1 hx hC hall hm2
    gi_wp2
    all_goals refine ⟨C, H4.out _, ?_, h2, h3.setCell (Nat.le_succ _) _⟩
    all_goals
      have := H1.out.set 0 (.int .i64 (mins (pre ++ [x])))
      rw [HM.out] at this ⊢
    · rw [show min x 1 = 1 by omega] at this ⊢; exact this
    · rw [show min x 1 = x by omega] at this ⊢; exact this
  · rintro C W hsz ⟨h1, h2, h3⟩ hD
    have hc := h1.cell 0
    simp only [List.getElem?_toArray, List.getElem?_cons_zero] at hc
    have HD := hid hD
    have hds := HSZ.out
    clear h1 hD
    gi_wp2
    refine leaves_marks (B := w2.heap.size) _ W ((MarksOk.nil _ _).cons (Nat.le_refl _) HD.out (by simp)) (by omega) (fun W' _ => results_tmp (fn := Tryz.f45) (t := 2) rfl _ _ _) ?_
    intro W' hb'
    exact ⟨rfl, h3.trans (hb'.below.mono (by omega))⟩
  · rintro c pre x post C W _ _ h _
    exact h.elim
end Go.Proofs.YtkmpdcckgibkhaaGreat
