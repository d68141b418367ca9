/-
  Walks: visiting the counts of letters.
-/
import Derived.Test.YtkmpdcckgibkhaaGreatSb
import Derived.RangeFuncNested
import Derived.RangeFuncBound
import Derived.RangeFuncCalls
import Derived.RangeFuncLeaves
import Derived.TacticsInMore
import Derived.LoopNIn
import Derived.LoopIn
namespace Go.Proofs.YtkmpdcckgibkhaaGreat
open Go.RowKit
attribute [local go_sem] Oper.semAt_some

def four (f : Nat → Int) : List Int := [f 0, f 1, f 2, f 3]
theorem four_split (f : Nat → Int) (k : Nat) (h : k < 4) : four f = (four f).take k ++ f k :: (four f).drop (k + 1) ∧ (four f).take (k + 1) = (four f).take k ++ [f k] := by
  match k, h with
  | 0, _ => exact ⟨rfl, rfl⟩
  | 1, _ => exact ⟨rfl, rfl⟩
  | 2, _ => exact ⟨rfl, rfl⟩
  | 3, _ => exact ⟨rfl, rfl⟩
theorem run_index4 (f : Nat → Int) (k : Nat) (h : k < 4) (w : World) : (Instr.index 82 (.agg #[.int .i64 (f 0), .int .i64 (f 1), .int .i64 (f 2), .int .i64 (f 3)]) (.int .i64 k)).run Tryz.prog w = .ok (.int .i64 (f k)) w := by
  match k, h with
  | 0, _ => (show _ = _; kernel_rfl)
  | 1, _ => (show _ = _; kernel_rfl)
  | 2, _ => (show _ = _; kernel_rfl)
  | 3, _ => (show _ = _; kernel_rfl)

set_option maxHeartbeats 400000 in
theorem each_iter (f : Nat → Int) (B : Nat) (C₀ : Nat → Prop) (W : World) (hB : Blk W B (arr4 f) 82) :
    Iter Tryz.prog 104 #[.pointer (some ⟨B, 0, none⟩)] (fun x v _ => v = Value.int .i64 x) (four f) C₀ W := by
  intro l J Jx hJ hJx hY hC h0
  obtain ⟨q0, q1, q2, q3, -⟩ := hB.all4
  have HY := hid hY
  have HC := hid hC
  have H0 := hid h0
  clear hY hC h0 hJ hJx hB
  refine (callsIn_wide (n := 0)).1 (callsIn_of_wp Tryz.func104 rfl trivial ?_ rfl)
  simp only [Tryz.ntmps104, List.size_toArray, List.length_cons, List.length_nil, Nat.reduceAdd, Nat.reduceSub, Array.replicate_succ, Array.replicate_zero, List.push_toArray, List.append_toArray, List.nil_append, List.cons_append]
  gi_wp2
  gi_loopw [6] (fun i wr => ∃ (k : Nat) (C : Nat → Prop), k ≤ 4 ∧ i = .int .i64 k ∧ Hid (J ((four f).take k) C wr ∧ ∀ j, C j → j < wr.heap.size)) (fun i _ => 4 - (intOf i).toNat)
  case atStart => exact ⟨0, C₀, by omega, rfl, H0.out, HC.out⟩
  case round =>
    obtain ⟨k, C, hk, rfl, HJ⟩ := hrel
    by_cases hlt : k < 4
    · have i0 := run_index4 f k hlt
      obtain ⟨fn, tmps, assign, body, hy, hR⟩ := HY.out _ (f k) _ _ C wr (four_split f k hlt).1 HJ.out.1 HJ.out.2 rfl
      have HR := hid hR
      clear hR
      gi_wp2
      refine ⟨rfl, HR.out.mono ?_⟩
      rintro e W' ⟨C', hG, (⟨rfl, hJ'⟩ | ⟨rfl, hJx'⟩)⟩
      · have HJ2 : Hid (J ((four f).take (k + 1)) C' W' ∧ ∀ j, C' j → j < W'.heap.size) := ⟨by rw [(four_split f k hlt).2]; exact hJ', hG.lt⟩
        clear hG hJ' HR i0 hy
        gi_wp2
        go_roundw
        case rel => exact ⟨k + 1, C', by omega, by go_num, HJ2⟩
        case measure => simp [intOf]; omega
      · have HJ2 := hid (And.intro (four_split f k hlt).1 hJx')
        clear hG hJx' HR i0 hy
        gi_wp2
        refine bodyPost_ret (results_none rfl _ _ _) rfl ?_
        exact ⟨⟨_, rfl⟩, C', .inr ⟨_, _, _, HJ2.out.1, HJ2.out.2⟩⟩
    · gi_wp2
      go_end0
      exact ⟨⟨_, rfl⟩, C, .inl (by have := HJ.out.1; rwa [show k = 4 by omega] at this)⟩
end Go.Proofs.YtkmpdcckgibkhaaGreat
namespace Go.Proofs.YtkmpdcckgibkhaaGreat
open Go.RowKit
attribute [local go_sem] Oper.semAt_some

set_option maxHeartbeats 400000 in
theorem each_any (c0 c1 c2 c3 : Int) (w : World) :
    Calls Tryz.prog 68 #[.agg #[.int .i64 c0, .int .i64 c1, .int .i64 c2, .int .i64 c3]] w fun e w' =>
      e = .returned (.func (.func 104) #[] #[.pointer (some ⟨w.heap.size, 0, none⟩)]) ∧ w.alloc (.cells #[.int .i64 c0, .int .i64 c1, .int .i64 c2, .int .i64 c3] 82) = w' := by
  go_enter Tryz.func68, Tryz.ntmps68
  go_wp2
  go_ret
  exact ⟨rfl, rfl⟩

/-- What AppendSeq holds between two rounds. -/
def AppI (b0 l : Nat) (w : World) (s : List Int) (C : Nat → Prop) (W : World) : Prop :=
  ∃ v, Blk W b0 #[v] 24 ∧ W.ownsRow (w.heap.size + 1) 3 1 v s.length (s.map (Value.int .i64)) ∧ (∀ g, v.ownBlock = some g → C g ∧ g ≠ l) ∧ C b0 ∧ b0 ≠ l ∧ Below w.heap.size w W

theorem ownsRow_same {w w' : World} {base e size n : Nat} {v : Value} {xs : List Value} (h : w.ownsRow base e size v n xs) (hk : ∀ g, v.ownBlock = some g → w'.heap[g]? = w.heap[g]?) : w'.ownsRow base e size v n xs := by
  refine ⟨h.1, ?_⟩
  rcases h.2 with h2 | ⟨g, cap, cur, hv, hg, hh, r⟩
  · exact .inl h2
  · exact .inr ⟨g, cap, cur, hv, hg, by rw [hk g (by rw [hv]; rfl)]; exact hh, r⟩

theorem AppI_firm (b0 l : Nat) (w : World) (hl : w.heap.size ≤ l) : FirmX l (AppI b0 l w) := by
  rintro s C A B ⟨v, h1, h2, h3, h4, h5, h6⟩ hs ho ht hp hk
  exact ⟨v, (hk _ h1.lt h5).trans h1, ownsRow_same h2 (fun g hg => hk g (h2.lt g hg).2 (h3 g hg).2), h3, h4, h5, h6.trans ⟨ho, ht, hp, hs, fun k hkB => hk k (by have := h6.size; omega) (by omega)⟩⟩

set_option maxHeartbeats 1000000 in
theorem appendSeq_any (f : Nat → Int) (B : Nat) (w : World) (hB : Blk w B (arr4 f) 82) :
    Calls Tryz.prog 103 #[.slice none 0 0, .func (.func 104) #[] #[.pointer (some ⟨B, 0, none⟩)]] w (RetInts (four f) w) := by
  have HB := hid hB
  clear hB
  refine (callsIn_wide (n := 0)).1 (callsIn_of_wp_marks Tryz.func103 rfl trivial ?_ rfl)
  simp only [Tryz.ntmps103, List.size_toArray, List.length_cons, List.length_nil, Nat.reduceAdd, Nat.reduceSub, Array.replicate_succ, Array.replicate_zero, List.push_toArray, List.append_toArray, List.nil_append, List.cons_append]
  gi_wp2
  have hsz : (w.alloc (.cells #[.slice none 0 0] 24)).heap.size = w.heap.size + 1 := by simp
  have HSZ := hid hsz
  have hnb : B ≠ w.heap.size := by have := HB.out.lt; omega
  have HNB := hid hnb
  clear hsz hnb
  refine wp_range (gf := 104) (lb := #[.pointer (some ⟨B, 0, none⟩)]) rfl Tryz.call104 (fun x v _ => v = Value.int .i64 x) (four f) (fun k => k = w.heap.size) ?_ (fun x v A l r o h _ => h) ?_
    (AppI w.heap.size (w.heap.size + 2) w) (fun _ _ _ _ => False) ?_ (fun _ => FirmX.false) ?_
    (fun v => { tmps := #[.slice none 0 0, .func (.func 104) #[] #[.pointer (some ⟨B, 0, none⟩)], .pointer (some ⟨w.heap.size, 0, none⟩), undef, .slice none 0 0, v, .func (.func 104) #[] #[.pointer (some ⟨B, 0, none⟩)], v, undef, undef, undef, undef, undef], defers := [] }) ?_ ?_ ?_ ?_
  · rintro k rfl; rw [HSZ.out]; omega
  · intro W hW hb
    refine each_iter f B _ W ?_
    exact (HB.out.alloc _).below hb (by rw [HSZ.out]; have := HB.out.lt; omega)
  · rw [HSZ.out]; exact AppI_firm _ _ _ (by omega)
  · intro W hb
    rw [HSZ.out] at hb
    exact ⟨_, (Blk.new w _ _).below hb (by omega), World.ownsRow_nil _ _ _ _, (by intro g hg; simp [Value.ownBlock] at hg), rfl, by omega, ((Below.refl _ w).alloc (Nat.le_refl _) _).trans (hb.mono (by omega))⟩
  · intro v W K hK
    gi_wp2
    exact hK
  · rintro pre x post v C W hx ⟨v0, h1, h2, h3, h4, h5, h6⟩ rfl hsz hC -
    have hlen : pre.length ≤ 4 := by
      have := congrArg List.length hx
      simp [four] at this; omega
    have hc := h1.cell 0
    have hf := h1.free 0
    simp only [List.getElem?_toArray, List.getElem?_cons_zero] at hc
    have H1 := hid h1
    have H2 := hid h2
    have H3 := hid h3
    have HX := hid hx
    have HC := hid hC
    clear h1 h2 h3 hx hC
    gi_wp2_with (gi_at_builtin; go_must (refine wpListIn_app _ rfl (.tmp 8) (.tmp 10) 24 rfl (w.heap.size + 1) 3 (.int .i64 0) 8 Tryz.underlying24 infoS3 rfl _ pre.length _ rfl (H2.out.alloc _) (some ⟨W.heap.size, 0, none⟩) 1 1 [.int .i64 x] rfl rfl (vals_new _ _ _ _ rfl) (fun h => by cases h) (by simp [Value.oneCell']) (by omega) (by omega) (by have := HSZ.out; simp; omega) ?_))
    intro v' w1 hown' hgrow hwh
    have hWs : w.heap.size + 3 ≤ W.heap.size := by have := HSZ.out; omega
    have hnbox : some w.heap.size ≠ v0.ownBlock := fun e => by have := (H2.out.lt _ e.symm).1; omega
    have h1w : Blk w1 w.heap.size #[v0] 24 := (hgrow.block _ (by simp; omega) hnbox).trans (H1.out.alloc _)
    have hb1 : Below w.heap.size w w1 := (h6.alloc h6.size _).grown hgrow (by simp; omega) (fun k hk => by have := (H2.out.lt k hk).1; omega)
    obtain ⟨L2, hL2⟩ : ∃ L2, L2 = pre ++ [x] := ⟨_, rfl⟩
    have hown' : w1.ownsRow (w.heap.size + 1) 3 1 v' L2.length (L2.map (Value.int .i64)) := by rw [hL2]; simpa using hown'
    obtain ⟨a', c', rfl, -⟩ := ownsRow_ints (l := L2) hown'
    have HL2 := hid hL2
    clear hL2
    have hc1 := h1w.cell 0
    have hf1 := h1w.free 0
    simp only [List.getElem?_toArray, List.getElem?_cons_zero] at hc1
    have HOW := hid hown'
    have HG := hid hgrow
    have HW := hid hwh
    have H1W := hid h1w
    clear hown' hgrow hwh h1w hnbox
    gi_wp2
    have hgs := HG.out.size
    simp at hgs
    have hnew : ∀ g, (Value.slice a' L2.length c').ownBlock = some g → (C g ∨ (g = W.heap.size + 1)) ∧ g ≠ w.heap.size := by
      intro g hg
      refine ⟨?_, ?_⟩
      · rcases HW.out with e | e
        · exact .inl (H3.out g (e ▸ hg)).1
        · rw [hg] at e; simp at e; exact .inr e
      · have := (HOW.out.lt g hg).1; omega
    refine ⟨fun k => C k ∨ k = W.heap.size + 1 ∧ k < w1.heap.size, ⟨?_, ?_, ?_⟩, _, H1W.out.set 0 _, ?_, ?_, .inl h4, h5, hb1.setCell (Nat.le_refl _) _⟩
    · rintro k (h | h)
      · exact .inl h
      · exact .inr (by omega)
    · rintro k (h | h)
      · have := (HC.out k h).1; simp [World.setCell]; omega
      · simpa [World.setCell] using h.2
    · refine ((KeepsX.of_below (Below.refl _ W |>.alloc (Nat.le_refl _) _)).trans ⟨HG.out.size, fun k hk hm => HG.out.block k hk (fun e => hm (H3.out k e.symm).1)⟩).trans (KeepsX.setCell _ h4)
    · have := ownsRow_same HOW.out (w' := w1.setCell ⟨w.heap.size, 0, none⟩ (.slice a' L2.length c')) (fun g hg => Below.heap_setCell _ _ _ _ (hnew g hg).2)
      rw [HL2.out] at this ⊢; exact this
    · intro g hg
      have hg' : (Value.slice a' L2.length c').ownBlock = some g := hg
      have hlt := (HOW.out.lt g hg').2
      rcases (hnew g hg').1 with h | h
      · exact ⟨.inl h, by have := (HC.out g h).2.2; have := HSZ.out; omega⟩
      · exact ⟨.inr ⟨h, hlt⟩, by omega⟩
  · rintro C W hsz ⟨v0, h1, h2, h3, h4, h5, h6⟩ hD
    have hc := h1.cell 0
    simp only [List.getElem?_toArray, List.getElem?_cons_zero] at hc
    have H2 := hid h2
    have HD := hid hD
    have hds := HSZ.out
    obtain ⟨a', c', rfl, hr⟩ := ownsRow_ints (l := four f) h2
    have HR := hid hr
    clear h1 h2 hD hr
    gi_wp2
    refine leaves_marks (B := (w.alloc (.cells #[.slice none 0 0] 24)).heap.size) _ W ((MarksOk.nil _ _).cons (Nat.le_refl _) HD.out (by simp)) (by omega) (fun W' _ => results_tmp (fn := Tryz.f103) (t := 4) rfl _ _ _) ?_
    intro W' hb
    exact ⟨a', c', rfl, hb.vals HR.out, h6.trans (hb.below.mono (by omega))⟩
  · rintro c pre x post C W _ _ h _
    exact h.elim
end Go.Proofs.YtkmpdcckgibkhaaGreat
