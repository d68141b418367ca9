/-
  Walks: the reference's search for fair cuts.
-/
import Derived.Test.YthelnggbcgjbcaaRefC
namespace Go.Proofs.Ythelnggbcgjbcaa
open Go.RowKit

/-- Are cuts of a chain, or of a ring, fair? -/
def testB (ring : Bool) (l : List UInt8) (c : List Int) : Bool := if ring then fairRingB l c else fairB l c
/-- The first fair list that begins with some cuts and has so many more from a position on. -/
def srch (ring : Bool) (l : List UInt8) (cuts : List Int) (more from_ : Nat) : Option (List Int) :=
  ((lsts more from_ (l.length - from_)).map (cuts ++ ·)).find? (testB ring l)

theorem srch_zero (ring : Bool) (l : List UInt8) (cuts : List Int) (f : Nat) : srch ring l cuts 0 f = if testB ring l cuts then some cuts else none := by
  simp [srch, lsts]
theorem srch_end (ring : Bool) (l : List UInt8) (cuts : List Int) (m f : Nat) (h : l.length ≤ f) : srch ring l cuts (m + 1) f = none := by
  simp [srch, Nat.sub_eq_zero_of_le h, lsts]
theorem srch_step (ring : Bool) (l : List UInt8) (cuts : List Int) (m f : Nat) (h : f < l.length) :
    srch ring l cuts (m + 1) f = (srch ring l (cuts ++ [(f : Int)]) m (f + 1)).or (srch ring l cuts (m + 1) (f + 1)) := by
  obtain ⟨d, hd⟩ : ∃ d, l.length = f + 1 + d := ⟨l.length - (f + 1), by omega⟩
  unfold srch
  rw [show l.length - f = d + 1 by omega, show l.length - (f + 1) = d by omega, lsts, List.map_append, List.find?_append, List.map_map]
  rw [show ((fun x => cuts ++ x) ∘ fun x => (f : Int) :: x) = (fun x => cuts ++ [(f : Int)] ++ x) from funext fun x => by simp]

theorem ret2_sb {a : Option Addr} {n c : Nat} {b b' : Bool} (h : b = b') : Ending.returned (.tuple #[.slice a n c, .bool b]) = .returned (.tuple #[.slice a n c, .bool b']) := by rw [h]
theorem if_isSome {α : Type} (b : Bool) (x : α) : b = (if b then some x else none).isSome := by cases b <;> rfl
/-- What search returns. -/
def RetSearch (res : Option (List Int)) (w : World) (e : Ending) (w' : World) : Prop :=
  ∃ a c L ok, e = .returned (.tuple #[.slice a L.length c, .bool ok]) ∧ ok = res.isSome ∧ Ints w' a L ∧ (a = none → c = 0) ∧ L.length ≤ 1000 ∧ (∀ r, res = some r → L = r) ∧ Below w.heap.size w w'

theorem cutsB_snoc (n : Int) (l : List Int) (f k : Int) (h : cutsB n f l = true) (hk : ∀ x ∈ l, x < k) (hf : f ≤ k) (hn : k < n) : cutsB n f (l ++ [k]) = true := by
  induction l generalizing f with
  | nil => simp [cutsB]; omega
  | cons x r ih =>
    simp only [cutsB, Bool.and_eq_true, decide_eq_true_eq, List.cons_append] at h ⊢
    refine ⟨h.1, ih (x + 1) h.2 (fun y hy => hk y (List.mem_cons_of_mem _ hy)) ?_⟩
    have := hk x (by simp); omega

theorem cutsB_last (n : Int) : ∀ (l : List Int) (f : Int), cutsB n f l = true → ∀ x ∈ l, ∀ y, l.getLast? = some y → x ≤ y := by
  intro l
  induction l with
  | nil => intro f _ x hx; simp at hx
  | cons c r ih =>
    intro f h x hx y hy
    simp only [cutsB, Bool.and_eq_true, decide_eq_true_eq] at h
    cases r with
    | nil => simp at hx hy; omega
    | cons d r' =>
      rw [List.getLast?_cons_cons] at hy
      rcases List.mem_cons.1 hx with rfl | hx
      · have h1 := ih _ h.2 d (by simp) y hy
        have h2 := cutsB_ge _ _ _ h.2 d (by simp)
        omega
      · exact ih _ h.2 x hx y hy

set_option maxHeartbeats 1000000 in
theorem search_any (s : ByteArray) (hs : s.size ≤ 1000) (hok : s.data.toList.all okb = true) (ring : Bool) : ∀ (more : Nat) (a : Option Addr) (c : Nat) (l : List Int) (fr : Nat) (w : World), Ints w a l → (a = none → c = 0) → l.length + more ≤ 100 → l.length ≤ c →
    cutsB s.size 0 l = true → (fr = match l.getLast? with | none => if ring then 0 else 1 | some x => x.toNat + 1) →
    Calls Try.prog 51 #[.string s, .slice a l.length c, .int .i64 more, .bool ring] w (RetSearch (srch ring s.data.toList l more fr) w) := by
  intro more
  induction more with
  | zero =>
    intro a c l fr w ha hn hl _ hc _
    have H0 := hid (srch_zero ring s.data.toList l fr)
    have HI := hid ha
    have HN := hid hn
    have F1 := fun W (h : Ints W a l) => hid (refFair_any s a c l W hs h (by omega) hc hok)
    have F2 := fun W (h : Ints W a l) => hid (refFairRing_any s a c l W hs h (by omega) hc hok)
    clear hn ha
    cases ring
    · go_enter Try.func51, Try.ntmps51
      go_wp2_with (go_at_call 27; refine ((F1 w HI.out).out).mono ?_; rintro e w1 ⟨rfl, hb⟩)
      go_ret2
      refine ⟨a, c, l, _, rfl, ?_, Ints.below HI.out hb (Nat.le_refl _), HN.out, by omega, ?_, hb⟩
      · rw [H0.out]; exact if_isSome _ _
      · intro r hr; rw [H0.out] at hr; split at hr <;> simp_all
    · go_enter Try.func51, Try.ntmps51
      go_wp2_with (go_at_call 31; refine ((F2 w HI.out).out).mono ?_; rintro e w1 ⟨rfl, hb⟩)
      go_ret2
      refine ⟨a, c, l, _, rfl, ?_, Ints.below HI.out hb (Nat.le_refl _), HN.out, by omega, ?_, hb⟩
      · rw [H0.out]; exact if_isSome _ _
      · intro r hr; rw [H0.out] at hr; split at hr <;> simp_all
  | succ m ih =>
    intro a c l fr w ha hn hl hlc hc hfr
    have IH := hid ih
    clear ih
    have hfrI : (fr : Int) = (match l.getLast? with | none => if ring then 0 else 1 | some x => x + 1) := by
      rw [hfr]; cases hg : l.getLast? with
      | none => cases ring <;> rfl
      | some x => have := cutsB_ge _ _ _ hc x (List.mem_of_getLast? hg); simp; omega
    have hm0 : (((m : Nat) + 1 : Int) == 0) = false := beq_eq_false_iff_ne.2 (by omega)
    have HC := hid hc
    have HI := hid ha
    have HN : Hid (a = none → l.length = 0 ∧ c = 0) := fun h => by have := hn h; exact ⟨by omega, this⟩
    have hfb : fr ≤ 1001 := by
      rw [hfr]; cases hg : l.getLast? with
      | none => cases ring <;> simp
      | some x => have := cutsB_ge _ _ _ hc x (List.mem_of_getLast? hg); simp; omega
    have HA := hid (show ∀ x ∈ l, x < (fr : Int) by
      intro x hx
      have hne : l ≠ [] := fun h => by rw [h] at hx; simp at hx
      obtain ⟨y, hy⟩ : ∃ y, l.getLast? = some y := ⟨_, List.getLast?_eq_some_getLast hne⟩
      have := cutsB_last _ _ _ hc x hx y hy
      rw [hy] at hfrI
      simp only at hfrI
      omega)
    clear ha hn hc hfr
    have HF := hid hfrI
    clear hfrI
    have L := hid (show Calls Try.prog 51 #[.string s, .slice a l.length c, .int .i64 (m + 1), .bool ring] w (RetSearch (srch ring s.data.toList l (m + 1) fr) w) from by
      by_cases hl0 : l.length = 0
      · have hlz : decide (0 < l.length) = false := by simp [hl0]
        have HZ := hid hl0
        clear hl0
        have hfr2 : fr = if ring then 0 else 1 := by
          have := HF.out; rw [List.eq_nil_of_length_eq_zero HZ.out] at this; cases ring <;> simp at this ⊢ <;> omega
        cases ring
        · obtain rfl : fr = 1 := hfr2
          go_enter Try.func51, Try.ntmps51
          go_wp2_with fail
          go_loopw [11] (fun i wr => ∃ k : Nat, i = .int .i64 k ∧ k ≤ 1001 ∧ Below w.heap.size w wr ∧ Hid (1 ≤ k ∧ srch false s.data.toList l (m + 1) 1 = srch false s.data.toList l (m + 1) k)) (fun i _ => 1001 - (intOf i).toNat)
          case atStart => exact ⟨1, by go_num, by omega, Below.refl _ _, ⟨Nat.le_refl _, rfl⟩⟩
          case round =>
            obtain ⟨k, rfl, hk, hB, HK⟩ := hrel
            by_cases hlt : k < s.size
            · have hr0 := HI.out.below hB (Nat.le_refl _)
              have HR0 := hid hr0
              clear hr0
              go_wp2_with (first | (at_builtin; refine wpList_app wr rfl (.tmp 44) (.tmp 45) 23 rfl wr.heap.size 3 (.int .i64 0) 8 Try.underlying23 Try.info3 rfl (.slice none 0 0) 0 [] rfl (World.ownsRow_nil _ _ _ _) a l.length c _ rfl (by rw [List.length_map]) HR0.out ?hnil (ints_one _) (by omega) (by omega) (Nat.le_refl _) ?_))
              case hnil => exact HN.out
              intro v1 w1 hown1 hg1 _
              obtain ⟨a1, c1, rfl, hr1⟩ := ownsRow_ints (l := l) (by simpa using hown1)
              have hsz1 := hg1.size
              have hb1 : Below w.heap.size w w1 := hB.grown hg1 hB.size (by simp [Value.ownBlock])
              have HO1 := hid hown1
              have HG1 := hid hg1
              clear hown1 hg1 hr1
              go_wp2_with (first | (at_builtin; refine wpList_app (w1.alloc (.cells #[.int .i64 k] 3)) rfl (.tmp 49) (.tmp 51) 23 rfl wr.heap.size 3 (.int .i64 0) 8 Try.underlying23 Try.info3 rfl (.slice a1 l.length c1) l.length _ rfl (by simpa using HO1.out.alloc _) (some ⟨w1.heap.size, 0, none⟩) 1 1 [.int .i64 k] rfl rfl (vals_new _ _ _ _ rfl) (fun h => by cases h) (by simp [Value.oneCell']) (by omega) (by omega) (by simp; omega) ?_))
              intro v2 w2 hown2 hg2 _
              obtain ⟨L2, hL2⟩ : ∃ L2, L2 = l ++ [(k : Int)] := ⟨_, rfl⟩
              obtain ⟨a2, c2, rfl, hr2⟩ := ownsRow_ints (l := L2) (by rw [hL2]; simpa using hown2)
              have hb2 : Below w.heap.size w w2 := below_app (hb1.alloc hb1.size _) hg2 (HO1.out.alloc _) (by have := hb1.size; simp; omega) hB.size
              obtain ⟨-, hlc2, hn2⟩ := ownsRow_facts hown2
              have hc2 : cutsB s.size 0 L2 = true := by
                rw [hL2]; exact cutsB_snoc _ _ _ _ HC.out (fun x hx => by have := HA.out x hx; have := HK.out.1; omega) (by omega) (by omega)
              have hf2 : k + 1 = match L2.getLast? with | none => if false then 0 else 1 | some x => x.toNat + 1 := by rw [hL2]; simp
              have CALL := hid (IH.out a2 c2 L2 (k + 1) w2 hr2 hn2 (by rw [hL2]; simp; omega) hlc2 hc2 hf2)
              have HL2 := hid hL2
              clear hown2 hg2 hr2 hn2 hlc2 hc2 hf2 hL2
              go_wp2_with fail
              refine CALL.out.mono ?_
              rintro e w3 ⟨a3, c3, L3, ok, rfl, hok3, hr3, hn3, hl3, hL3, hb3⟩
              have HK2 := hid (srch_step false s.data.toList l m k (by rw [bytes_len]; exact hlt))
              have hb4 : Below w.heap.size w w3 := hb2.trans (hb3.mono hb2.size)
              have H5 := hid hL3
              have H3 := hid hr3
              have H4 := hid hn3
              have H6 := hid hok3
              clear hL3 hr3 hn3 hok3
              cases ok
              · have hnone : srch false s.data.toList (l ++ [(k : Int)]) m (k + 1) = none := by
                  have := H6.out; rw [HL2.out] at this; exact Option.isSome_eq_false_iff.1 this.symm |> Option.isNone_iff_eq_none.1
                have hfin : 1 ≤ k + 1 ∧ srch false s.data.toList l (m + 1) 1 = srch false s.data.toList l (m + 1) (k + 1) :=
                  ⟨by have := HK.out.1; omega, by rw [HK.out.2, HK2.out, hnone, Option.none_or]⟩
                have HF2 := hid hfin
                clear hfin hnone
                go_wp2
                go_roundw
                case rel => exact ⟨k + 1, by go_num, by omega, hb4, HF2⟩
                case measure => simp [intOf]; omega
              · obtain ⟨r, hr⟩ : ∃ r, srch false s.data.toList (l ++ [(k : Int)]) m (k + 1) = some r := by
                  have := H6.out; rw [HL2.out] at this; exact Option.isSome_iff_exists.1 this.symm
                have hfin : srch false s.data.toList l (m + 1) 1 = some r ∧ L3 = r :=
                  ⟨by rw [HK.out.2, HK2.out, hr, Option.some_or], H5.out r (by rw [HL2.out]; exact hr)⟩
                have HF2 := hid hfin
                clear hfin hr
                go_wp2
                go_ret2
                exact ⟨a3, c3, L3, true, rfl, by rw [HF2.out.1]; rfl, H3.out, H4.out, hl3, (fun r' h => by rw [HF2.out.1] at h; rw [HF2.out.2]; exact Option.some.inj h), hb4⟩
            · have hfin : srch false s.data.toList l (m + 1) 1 = none := by rw [HK.out.2]; exact srch_end _ _ _ _ _ (by rw [bytes_len]; omega)
              have HF2 := hid hfin
              clear hfin
              go_wp2
              go_ret2
              exact ⟨none, 0, [], false, rfl, by rw [HF2.out]; rfl, Ints.nil _ _, fun _ => rfl, by simp, (fun r' h => by rw [HF2.out] at h; exact nomatch h), hB⟩
        · obtain rfl : fr = 0 := hfr2
          go_enter Try.func51, Try.ntmps51
          go_wp2_with fail
          go_loopw [11] (fun i wr => ∃ k : Nat, i = .int .i64 k ∧ k ≤ 1001 ∧ Below w.heap.size w wr ∧ Hid (0 ≤ k ∧ srch true s.data.toList l (m + 1) 0 = srch true s.data.toList l (m + 1) k)) (fun i _ => 1001 - (intOf i).toNat)
          case atStart => exact ⟨0, by go_num, by omega, Below.refl _ _, ⟨Nat.le_refl _, rfl⟩⟩
          case round =>
            obtain ⟨k, rfl, hk, hB, HK⟩ := hrel
            by_cases hlt : k < s.size
            · have hr0 := HI.out.below hB (Nat.le_refl _)
              have HR0 := hid hr0
              clear hr0
              go_wp2_with (first | (at_builtin; refine wpList_app wr rfl (.tmp 44) (.tmp 45) 23 rfl wr.heap.size 3 (.int .i64 0) 8 Try.underlying23 Try.info3 rfl (.slice none 0 0) 0 [] rfl (World.ownsRow_nil _ _ _ _) a l.length c _ rfl (by rw [List.length_map]) HR0.out ?hnil (ints_one _) (by omega) (by omega) (Nat.le_refl _) ?_))
              case hnil => exact HN.out
              intro v1 w1 hown1 hg1 _
              obtain ⟨a1, c1, rfl, hr1⟩ := ownsRow_ints (l := l) (by simpa using hown1)
              have hsz1 := hg1.size
              have hb1 : Below w.heap.size w w1 := hB.grown hg1 hB.size (by simp [Value.ownBlock])
              have HO1 := hid hown1
              have HG1 := hid hg1
              clear hown1 hg1 hr1
              go_wp2_with (first | (at_builtin; refine wpList_app (w1.alloc (.cells #[.int .i64 k] 3)) rfl (.tmp 49) (.tmp 51) 23 rfl wr.heap.size 3 (.int .i64 0) 8 Try.underlying23 Try.info3 rfl (.slice a1 l.length c1) l.length _ rfl (by simpa using HO1.out.alloc _) (some ⟨w1.heap.size, 0, none⟩) 1 1 [.int .i64 k] rfl rfl (vals_new _ _ _ _ rfl) (fun h => by cases h) (by simp [Value.oneCell']) (by omega) (by omega) (by simp; omega) ?_))
              intro v2 w2 hown2 hg2 _
              obtain ⟨L2, hL2⟩ : ∃ L2, L2 = l ++ [(k : Int)] := ⟨_, rfl⟩
              obtain ⟨a2, c2, rfl, hr2⟩ := ownsRow_ints (l := L2) (by rw [hL2]; simpa using hown2)
              have hb2 : Below w.heap.size w w2 := below_app (hb1.alloc hb1.size _) hg2 (HO1.out.alloc _) (by have := hb1.size; simp; omega) hB.size
              obtain ⟨-, hlc2, hn2⟩ := ownsRow_facts hown2
              have hc2 : cutsB s.size 0 L2 = true := by
                rw [hL2]; exact cutsB_snoc _ _ _ _ HC.out (fun x hx => by have := HA.out x hx; have := HK.out.1; omega) (by omega) (by omega)
              have hf2 : k + 1 = match L2.getLast? with | none => if true then 0 else 1 | some x => x.toNat + 1 := by rw [hL2]; simp
              have CALL := hid (IH.out a2 c2 L2 (k + 1) w2 hr2 hn2 (by rw [hL2]; simp; omega) hlc2 hc2 hf2)
              have HL2 := hid hL2
              clear hown2 hg2 hr2 hn2 hlc2 hc2 hf2 hL2
              go_wp2_with fail
              refine CALL.out.mono ?_
              rintro e w3 ⟨a3, c3, L3, ok, rfl, hok3, hr3, hn3, hl3, hL3, hb3⟩
              have HK2 := hid (srch_step true s.data.toList l m k (by rw [bytes_len]; exact hlt))
              have hb4 : Below w.heap.size w w3 := hb2.trans (hb3.mono hb2.size)
              have H5 := hid hL3
              have H3 := hid hr3
              have H4 := hid hn3
              have H6 := hid hok3
              clear hL3 hr3 hn3 hok3
              cases ok
              · have hnone : srch true s.data.toList (l ++ [(k : Int)]) m (k + 1) = none := by
                  have := H6.out; rw [HL2.out] at this; exact Option.isSome_eq_false_iff.1 this.symm |> Option.isNone_iff_eq_none.1
                have hfin : 0 ≤ k + 1 ∧ srch true s.data.toList l (m + 1) 0 = srch true s.data.toList l (m + 1) (k + 1) :=
                  ⟨by have := HK.out.1; omega, by rw [HK.out.2, HK2.out, hnone, Option.none_or]⟩
                have HF2 := hid hfin
                clear hfin hnone
                go_wp2
                go_roundw
                case rel => exact ⟨k + 1, by go_num, by omega, hb4, HF2⟩
                case measure => simp [intOf]; omega
              · obtain ⟨r, hr⟩ : ∃ r, srch true s.data.toList (l ++ [(k : Int)]) m (k + 1) = some r := by
                  have := H6.out; rw [HL2.out] at this; exact Option.isSome_iff_exists.1 this.symm
                have hfin : srch true s.data.toList l (m + 1) 0 = some r ∧ L3 = r :=
                  ⟨by rw [HK.out.2, HK2.out, hr, Option.some_or], H5.out r (by rw [HL2.out]; exact hr)⟩
                have HF2 := hid hfin
                clear hfin hr
                go_wp2
                go_ret2
                exact ⟨a3, c3, L3, true, rfl, by rw [HF2.out.1]; rfl, H3.out, H4.out, hl3, (fun r' h => by rw [HF2.out.1] at h; rw [HF2.out.2]; exact Option.some.inj h), hb4⟩
            · have hfin : srch true s.data.toList l (m + 1) 0 = none := by rw [HK.out.2]; exact srch_end _ _ _ _ _ (by rw [bytes_len]; omega)
              have HF2 := hid hfin
              clear hfin
              go_wp2
              go_ret2
              exact ⟨none, 0, [], false, rfl, by rw [HF2.out]; rfl, Ints.nil _ _, fun _ => rfl, by simp, (fun r' h => by rw [HF2.out] at h; exact nomatch h), hB⟩
      · obtain ⟨x, hx⟩ : ∃ x, l.getLast? = some x := by
          cases hg : l.getLast? with
          | none => rw [List.getLast?_eq_none_iff] at hg; exact absurd (by rw [hg]; rfl) hl0
          | some x => exact ⟨x, rfl⟩
        have hxm := cutsB_ge _ _ _ HC.out x (List.mem_of_getLast? hx)
        obtain ⟨p, rfl⟩ := Int.eq_ofNat_of_zero_le hxm.1
        have hfr2 : fr = p + 1 := by have := HF.out; rw [hx] at this; simp only at this; omega
        subst hfr2
        obtain ⟨g, o, rfl, hg, hcell⟩ := HI.out.at (by omega)
        have q0 : w.cell? ⟨g, o + (l.length - 1), none⟩ = some (.int .i64 p) := hcell _ _ (by rw [← List.getLast?_eq_getElem?]; exact hx)
        have hpos : 0 < l.length := by omega
        have hlz : decide (0 < l.length) = true := by simp; omega
        clear hl0 hcell hx hxm
        cases ring
        · skip
          go_enter Try.func51, Try.ntmps51
          go_wp2_with fail
          go_loopw [11] (fun i wr => ∃ k : Nat, i = .int .i64 k ∧ k ≤ 1001 ∧ Below w.heap.size w wr ∧ Hid ((p + 1) ≤ k ∧ srch false s.data.toList l (m + 1) (p + 1) = srch false s.data.toList l (m + 1) k)) (fun i _ => 1001 - (intOf i).toNat)
          case atStart => exact ⟨p + 1, by go_num, by omega, Below.refl _ _, ⟨Nat.le_refl _, rfl⟩⟩
          case round =>
            obtain ⟨k, rfl, hk, hB, HK⟩ := hrel
            by_cases hlt : k < s.size
            · have hr0 := HI.out.below hB (Nat.le_refl _)
              have HR0 := hid hr0
              clear hr0
              go_wp2_with (first | (at_builtin; refine wpList_app wr rfl (.tmp 44) (.tmp 45) 23 rfl wr.heap.size 3 (.int .i64 0) 8 Try.underlying23 Try.info3 rfl (.slice none 0 0) 0 [] rfl (World.ownsRow_nil _ _ _ _) (some ⟨g, o, none⟩) l.length c _ rfl (by rw [List.length_map]) HR0.out ?hnil (ints_one _) (by omega) (by omega) (Nat.le_refl _) ?_))
              case hnil => exact HN.out
              intro v1 w1 hown1 hg1 _
              obtain ⟨a1, c1, rfl, hr1⟩ := ownsRow_ints (l := l) (by simpa using hown1)
              have hsz1 := hg1.size
              have hb1 : Below w.heap.size w w1 := hB.grown hg1 hB.size (by simp [Value.ownBlock])
              have HO1 := hid hown1
              have HG1 := hid hg1
              clear hown1 hg1 hr1
              go_wp2_with (first | (at_builtin; refine wpList_app (w1.alloc (.cells #[.int .i64 k] 3)) rfl (.tmp 49) (.tmp 51) 23 rfl wr.heap.size 3 (.int .i64 0) 8 Try.underlying23 Try.info3 rfl (.slice a1 l.length c1) l.length _ rfl (by simpa using HO1.out.alloc _) (some ⟨w1.heap.size, 0, none⟩) 1 1 [.int .i64 k] rfl rfl (vals_new _ _ _ _ rfl) (fun h => by cases h) (by simp [Value.oneCell']) (by omega) (by omega) (by simp; omega) ?_))
              intro v2 w2 hown2 hg2 _
              obtain ⟨L2, hL2⟩ : ∃ L2, L2 = l ++ [(k : Int)] := ⟨_, rfl⟩
              obtain ⟨a2, c2, rfl, hr2⟩ := ownsRow_ints (l := L2) (by rw [hL2]; simpa using hown2)
              have hb2 : Below w.heap.size w w2 := below_app (hb1.alloc hb1.size _) hg2 (HO1.out.alloc _) (by have := hb1.size; simp; omega) hB.size
              obtain ⟨-, hlc2, hn2⟩ := ownsRow_facts hown2
              have hc2 : cutsB s.size 0 L2 = true := by
                rw [hL2]; exact cutsB_snoc _ _ _ _ HC.out (fun x hx => by have := HA.out x hx; have := HK.out.1; omega) (by omega) (by omega)
              have hf2 : k + 1 = match L2.getLast? with | none => if false then 0 else 1 | some x => x.toNat + 1 := by rw [hL2]; simp
              have CALL := hid (IH.out a2 c2 L2 (k + 1) w2 hr2 hn2 (by rw [hL2]; simp; omega) hlc2 hc2 hf2)
              have HL2 := hid hL2
              clear hown2 hg2 hr2 hn2 hlc2 hc2 hf2 hL2
              go_wp2_with fail
              refine CALL.out.mono ?_
              rintro e w3 ⟨a3, c3, L3, ok, rfl, hok3, hr3, hn3, hl3, hL3, hb3⟩
              have HK2 := hid (srch_step false s.data.toList l m k (by rw [bytes_len]; exact hlt))
              have hb4 : Below w.heap.size w w3 := hb2.trans (hb3.mono hb2.size)
              have H5 := hid hL3
              have H3 := hid hr3
              have H4 := hid hn3
              have H6 := hid hok3
              clear hL3 hr3 hn3 hok3
              cases ok
              · have hnone : srch false s.data.toList (l ++ [(k : Int)]) m (k + 1) = none := by
                  have := H6.out; rw [HL2.out] at this; exact Option.isSome_eq_false_iff.1 this.symm |> Option.isNone_iff_eq_none.1
                have hfin : (p + 1) ≤ k + 1 ∧ srch false s.data.toList l (m + 1) (p + 1) = srch false s.data.toList l (m + 1) (k + 1) :=
                  ⟨by have := HK.out.1; omega, by rw [HK.out.2, HK2.out, hnone, Option.none_or]⟩
                have HF2 := hid hfin
                clear hfin hnone
                go_wp2
                go_roundw
                case rel => exact ⟨k + 1, by go_num, by omega, hb4, HF2⟩
                case measure => simp [intOf]; omega
              · obtain ⟨r, hr⟩ : ∃ r, srch false s.data.toList (l ++ [(k : Int)]) m (k + 1) = some r := by
                  have := H6.out; rw [HL2.out] at this; exact Option.isSome_iff_exists.1 this.symm
                have hfin : srch false s.data.toList l (m + 1) (p + 1) = some r ∧ L3 = r :=
                  ⟨by rw [HK.out.2, HK2.out, hr, Option.some_or], H5.out r (by rw [HL2.out]; exact hr)⟩
                have HF2 := hid hfin
                clear hfin hr
                go_wp2
                go_ret2
                exact ⟨a3, c3, L3, true, rfl, by rw [HF2.out.1]; rfl, H3.out, H4.out, hl3, (fun r' h => by rw [HF2.out.1] at h; rw [HF2.out.2]; exact Option.some.inj h), hb4⟩
            · have hfin : srch false s.data.toList l (m + 1) (p + 1) = none := by rw [HK.out.2]; exact srch_end _ _ _ _ _ (by rw [bytes_len]; omega)
              have HF2 := hid hfin
              clear hfin
              go_wp2
              go_ret2
              exact ⟨none, 0, [], false, rfl, by rw [HF2.out]; rfl, Ints.nil _ _, fun _ => rfl, by simp, (fun r' h => by rw [HF2.out] at h; exact nomatch h), hB⟩
        · skip
          go_enter Try.func51, Try.ntmps51
          go_wp2_with fail
          go_loopw [11] (fun i wr => ∃ k : Nat, i = .int .i64 k ∧ k ≤ 1001 ∧ Below w.heap.size w wr ∧ Hid ((p + 1) ≤ k ∧ srch true s.data.toList l (m + 1) (p + 1) = srch true s.data.toList l (m + 1) k)) (fun i _ => 1001 - (intOf i).toNat)
          case atStart => exact ⟨p + 1, by go_num, by omega, Below.refl _ _, ⟨Nat.le_refl _, rfl⟩⟩
          case round =>
            obtain ⟨k, rfl, hk, hB, HK⟩ := hrel
            by_cases hlt : k < s.size
            · have hr0 := HI.out.below hB (Nat.le_refl _)
              have HR0 := hid hr0
              clear hr0
              go_wp2_with (first | (at_builtin; refine wpList_app wr rfl (.tmp 44) (.tmp 45) 23 rfl wr.heap.size 3 (.int .i64 0) 8 Try.underlying23 Try.info3 rfl (.slice none 0 0) 0 [] rfl (World.ownsRow_nil _ _ _ _) (some ⟨g, o, none⟩) l.length c _ rfl (by rw [List.length_map]) HR0.out ?hnil (ints_one _) (by omega) (by omega) (Nat.le_refl _) ?_))
              case hnil => exact HN.out
              intro v1 w1 hown1 hg1 _
              obtain ⟨a1, c1, rfl, hr1⟩ := ownsRow_ints (l := l) (by simpa using hown1)
              have hsz1 := hg1.size
              have hb1 : Below w.heap.size w w1 := hB.grown hg1 hB.size (by simp [Value.ownBlock])
              have HO1 := hid hown1
              have HG1 := hid hg1
              clear hown1 hg1 hr1
              go_wp2_with (first | (at_builtin; refine wpList_app (w1.alloc (.cells #[.int .i64 k] 3)) rfl (.tmp 49) (.tmp 51) 23 rfl wr.heap.size 3 (.int .i64 0) 8 Try.underlying23 Try.info3 rfl (.slice a1 l.length c1) l.length _ rfl (by simpa using HO1.out.alloc _) (some ⟨w1.heap.size, 0, none⟩) 1 1 [.int .i64 k] rfl rfl (vals_new _ _ _ _ rfl) (fun h => by cases h) (by simp [Value.oneCell']) (by omega) (by omega) (by simp; omega) ?_))
              intro v2 w2 hown2 hg2 _
              obtain ⟨L2, hL2⟩ : ∃ L2, L2 = l ++ [(k : Int)] := ⟨_, rfl⟩
              obtain ⟨a2, c2, rfl, hr2⟩ := ownsRow_ints (l := L2) (by rw [hL2]; simpa using hown2)
              have hb2 : Below w.heap.size w w2 := below_app (hb1.alloc hb1.size _) hg2 (HO1.out.alloc _) (by have := hb1.size; simp; omega) hB.size
              obtain ⟨-, hlc2, hn2⟩ := ownsRow_facts hown2
              have hc2 : cutsB s.size 0 L2 = true := by
                rw [hL2]; exact cutsB_snoc _ _ _ _ HC.out (fun x hx => by have := HA.out x hx; have := HK.out.1; omega) (by omega) (by omega)
              have hf2 : k + 1 = match L2.getLast? with | none => if true then 0 else 1 | some x => x.toNat + 1 := by rw [hL2]; simp
              have CALL := hid (IH.out a2 c2 L2 (k + 1) w2 hr2 hn2 (by rw [hL2]; simp; omega) hlc2 hc2 hf2)
              have HL2 := hid hL2
              clear hown2 hg2 hr2 hn2 hlc2 hc2 hf2 hL2
              go_wp2_with fail
              refine CALL.out.mono ?_
              rintro e w3 ⟨a3, c3, L3, ok, rfl, hok3, hr3, hn3, hl3, hL3, hb3⟩
              have HK2 := hid (srch_step true s.data.toList l m k (by rw [bytes_len]; exact hlt))
              have hb4 : Below w.heap.size w w3 := hb2.trans (hb3.mono hb2.size)
              have H5 := hid hL3
              have H3 := hid hr3
              have H4 := hid hn3
              have H6 := hid hok3
              clear hL3 hr3 hn3 hok3
              cases ok
              · have hnone : srch true s.data.toList (l ++ [(k : Int)]) m (k + 1) = none := by
                  have := H6.out; rw [HL2.out] at this; exact Option.isSome_eq_false_iff.1 this.symm |> Option.isNone_iff_eq_none.1
                have hfin : (p + 1) ≤ k + 1 ∧ srch true s.data.toList l (m + 1) (p + 1) = srch true s.data.toList l (m + 1) (k + 1) :=
                  ⟨by have := HK.out.1; omega, by rw [HK.out.2, HK2.out, hnone, Option.none_or]⟩
                have HF2 := hid hfin
                clear hfin hnone
                go_wp2
                go_roundw
                case rel => exact ⟨k + 1, by go_num, by omega, hb4, HF2⟩
                case measure => simp [intOf]; omega
              · obtain ⟨r, hr⟩ : ∃ r, srch true s.data.toList (l ++ [(k : Int)]) m (k + 1) = some r := by
                  have := H6.out; rw [HL2.out] at this; exact Option.isSome_iff_exists.1 this.symm
                have hfin : srch true s.data.toList l (m + 1) (p + 1) = some r ∧ L3 = r :=
                  ⟨by rw [HK.out.2, HK2.out, hr, Option.some_or], H5.out r (by rw [HL2.out]; exact hr)⟩
                have HF2 := hid hfin
                clear hfin hr
                go_wp2
                go_ret2
                exact ⟨a3, c3, L3, true, rfl, by rw [HF2.out.1]; rfl, H3.out, H4.out, hl3, (fun r' h => by rw [HF2.out.1] at h; rw [HF2.out.2]; exact Option.some.inj h), hb4⟩
            · have hfin : srch true s.data.toList l (m + 1) (p + 1) = none := by rw [HK.out.2]; exact srch_end _ _ _ _ _ (by rw [bytes_len]; omega)
              have HF2 := hid hfin
              clear hfin
              go_wp2
              go_ret2
              exact ⟨none, 0, [], false, rfl, by rw [HF2.out]; rfl, Ints.nil _ _, fun _ => rfl, by simp, (fun r' h => by rw [HF2.out] at h; exact nomatch h), hB⟩
)
    exact L.out

end Go.Proofs.Ythelnggbcgjbcaa
