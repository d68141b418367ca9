/-
  The walk of the law SealsShared.
-/
import Derived.Test.YthelnggbcgjbcaaLawRounds
import Derived.OpenShut
namespace Go.Proofs.Ythelnggbcgjbcaa
open Go.RowKit

theorem IsRow.bounds {w : World} {a : Option Addr} {len cap : Nat} {zs : List Int} (h : IsRow .i64 w a len cap zs) : ∀ n ∈ zs, -9223372036854775808 ≤ n ∧ n ≤ 9223372036854775807 := by
  rcases h with ⟨rfl, rfl, rfl, rfl⟩ | ⟨x, rfl, h1, h2, h3, h4, h5⟩
  · intro n hn; simp at hn
  · intro n hn; exact bounds_i64 (h5 n hn)

/-- What is left of the shares and of the cuts, from a position on. -/
def ShInv (l A B : List UInt8) (v C : List Int) (at_ i k next car : Nat) : Prop :=
  A.drop i = pick 1 (l.drop at_) (v.drop at_) ∧ B.drop k = pick (-1) (l.drop at_) (v.drop at_) ∧ C.drop next = cutsAt (if car = 0 then 1 else -1) at_ (v.drop at_)
theorem ShInv.step {l A B : List UInt8} {v C : List Int} {at_ i k next car : Nat} (h : ShInv l A B v C at_ i k next car) (hv : Sgn v) (hl : v.length = l.length) (ha : at_ < l.length) :
    ∃ y, (y = 1 ∨ y = -1) ∧ 
      ((y = if car = 0 then 1 else -1) ∧ (∀ c, C[next]? = some c → c ≠ (at_ : Int)) ∨ (y ≠ if car = 0 then 1 else -1) ∧ C[next]? = some (at_ : Int)) ∧
      (y = 1 → A[i]? = l[at_]? ∧ ShInv l A B v C (at_ + 1) (i + 1) k (if y = (if car = 0 then 1 else -1) then next else next + 1) 0) ∧
      (y = -1 → B[k]? = l[at_]? ∧ ShInv l A B v C (at_ + 1) i (k + 1) (if y = (if car = 0 then 1 else -1) then next else next + 1) 1) := by
  obtain ⟨h1, h2, h3⟩ := h
  have hd : l.drop at_ = l[at_] :: l.drop (at_ + 1) := List.drop_eq_getElem_cons ha
  have hdv : v.drop at_ = v[at_]'(by omega) :: v.drop (at_ + 1) := List.drop_eq_getElem_cons (by omega)
  obtain ⟨y, hy⟩ : ∃ y, y = v[at_]'(by omega) := ⟨_, rfl⟩
  rw [← hy] at hdv
  have hy1 : y = 1 ∨ y = -1 := hv y (by rw [hy]; exact List.getElem_mem _)
  rw [hd, hdv] at h1 h2
  rw [hdv] at h3
  have hat : l[at_]? = some l[at_] := List.getElem?_eq_getElem ha
  obtain ⟨σ, hσ⟩ : ∃ σ : Int, σ = if car = 0 then 1 else -1 := ⟨_, rfl⟩
  rw [← hσ] at h3 ⊢
  have hσ1 : σ = 1 ∨ σ = -1 := by rw [hσ]; split <;> simp
  simp only [cutsAt] at h3
  have hget : ∀ {α : Type} (L : List α) (n : Nat) (x : α) (t : List α), L.drop n = x :: t → L[n]? = some x ∧ L.drop (n + 1) = t := by
    intro α L n x t h
    have hn : n < L.length := by
      rcases Nat.lt_or_ge n L.length with h' | h'
      · exact h'
      · rw [List.drop_eq_nil_of_le h'] at h; cases h
    rw [List.drop_eq_getElem_cons hn] at h
    injection h with e1 e2
    exact ⟨by rw [List.getElem?_eq_getElem hn, e1], e2⟩
  refine ⟨y, hy1, ?_, ?_, ?_⟩
  · by_cases e : y = σ
    · left
      refine ⟨e, fun c hc => ?_⟩
      rw [if_pos e] at h3
      have hB := cutsAt_cutsB (v.drop (at_ + 1)) σ (at_ + 1)
      rw [← h3] at hB
      have hn : next < C.length := (List.getElem?_eq_some_iff.1 hc).1
      rw [List.drop_eq_getElem_cons hn] at hB
      simp only [cutsB, Bool.and_eq_true, decide_eq_true_eq] at hB
      rw [List.getElem?_eq_getElem hn] at hc
      cases hc
      omega
    · right
      rw [if_neg e] at h3
      exact ⟨e, (hget _ _ _ _ h3).1⟩
  · intro e1
    subst e1
    simp only [pick, if_true] at h1
    rw [pick, if_neg (by omega)] at h2
    refine ⟨by rw [(hget _ _ _ _ h1).1, hat], (hget _ _ _ _ h1).2, h2, ?_⟩
    by_cases e : (1 : Int) = σ
    · rw [if_pos e]; rw [if_pos e] at h3; rw [h3, ← e]; rfl
    · rw [if_neg e]; rw [if_neg e] at h3; rw [(hget _ _ _ _ h3).2]; rfl
  · intro e1
    subst e1
    rw [pick, if_neg (by omega)] at h1
    simp only [pick, if_true] at h2
    refine ⟨by rw [(hget _ _ _ _ h2).1, hat], h1, (hget _ _ _ _ h2).2, ?_⟩
    by_cases e : (-1 : Int) = σ
    · rw [if_pos e]; rw [if_pos e] at h3; rw [h3, ← e]; rfl
    · rw [if_neg e]; rw [if_neg e] at h3; rw [(hget _ _ _ _ h3).2]; rfl
theorem pick_len (l : List UInt8) : ∀ v : List Int, Sgn v → v.length = l.length → (pick 1 l v).length + (pick (-1) l v).length = l.length := by
  induction l with
  | nil => intro v _ h; have : v = [] := List.eq_nil_of_length_eq_zero (by simpa using h); subst this; rfl
  | cons c l ih =>
    intro v hv h
    cases v with
    | nil => simp at h
    | cons a r =>
      have := ih r (fun y hy => hv y (by simp [hy])) (by simpa using h)
      rcases hv a (by simp) with rfl | rfl <;> simp [pick] <;> omega
theorem byte_eq (A s : ByteArray) (i q : Nat) (hq : q < s.size) (h : A.data.toList[i]? = s.data.toList[q]?) : ∃ hi : i < A.size, A[i] = s[q] := by
  rw [List.getElem?_eq_getElem (show q < s.data.toList.length from hq)] at h
  obtain ⟨hi, he⟩ := List.getElem?_eq_some_iff.1 h
  exact ⟨hi, he⟩
theorem shares_pick (l : List UInt8) (C : List Int) (h : cutsB l.length 0 C = true) : shLoop l 0 0 C [] [] = (pick 1 l (sgnOf l.length 1 0 C), pick (-1) l (sgnOf l.length 1 0 C)) := by
  have e := cutsAt_sgnOf l.length 1 0 C (.inl rfl) (by rw [Nat.zero_add]; exact h)
  have hs := share_sgn l (sgnOf l.length 1 0 C) 1 0 0 (.inl rfl) (sgnOf_sgn _ _ _ _ (.inl rfl)) (Nat.le_refl _) (by rw [sgnOf_len]; omega)
  rw [e] at hs
  rw [(shLoop_share _ _ _ _ _).1, hs]
  simp

set_option maxRecDepth 100000 in
set_option maxHeartbeats 8000000 in
theorem shared_walk (a0 : ByteArray) (a1 : Option Addr) (len1 cap1 : Nat) (z1 : List Int) (w : World) (w0 : a0.size ≤ maxLen) (w1 : IsRow .i64 w a1 len1 cap1 z1) :
    Calls Try.prog 6 #[.string a0, .slice a1 len1 cap1] w fun e w' => e = .returned (.bool true) ∧ Below w.heap.size w w' := by
  obtain ⟨hi, hlen, hn, hc, hm⟩ := w1.ints
  have HBD := hid w1.bounds
  have hmx : maxLen ≤ 9223372036854775807 := by decide
  obtain ⟨z, hz⟩ : ∃ z, z = z1.take len1 := ⟨_, rfl⟩
  rw [← hz] at hi hlen
  have HZB := hid (show ∀ n ∈ z, -9223372036854775808 ≤ n ∧ n ≤ 9223372036854775807 from fun n hn => HBD.out n (List.mem_of_mem_take (hz ▸ hn)))
  have HI := hid hi
  have HLEN := hid hlen
  have hlb : len1 ≤ 9223372036854775807 := by omega
  clear w1 hi hlen hn hc hz HBD
  go_enter Try.func6, Try.ntmps6
  go_wp2_with fail
  refine (even_any a0 24 w (by omega) (by omega) (by omega)).mono ?_
  rintro e w2 ⟨rfl, hb⟩
  obtain ⟨s, hs⟩ : ∃ s, s = mkS (evenL a0.data.toList 24) := ⟨_, rfl⟩
  have hch : evenChainB s.data.toList = true := by rw [hs]; exact evenL_chain _ _ (by omega) (by omega)
  have hsz : s.size ≤ 24 := by rw [hs, mkS_size]; exact evenL_len _ _ (by omega)
  rw [← hs]
  have HC := hid hch
  have HOK := hid (even_facts hch).1
  have HI2 := hid (HI.out.below hb (Nat.le_refl _))
  clear hs hch
  go_wp2_with fail
  go_loopw [6, 7] (fun cv av wr => ∃ (p : Nat) (C : List Int), 1 ≤ p ∧ p ≤ 25 ∧ av = .int .i64 p ∧ Below w.heap.size w wr ∧ wr.ownsRow w.heap.size 3 1 cv C.length (C.map (Value.int .i64)) ∧ C.length ≤ p ∧ Hid (cutsB s.size 1 C = true ∧ ∀ x ∈ C, x < (p : Int))) (fun _ i _ => 25 - (intOf i).toNat)
  case atStart => exact ⟨1, [], by omega, by omega, rfl, hb, World.ownsRow_nil _ _ _ _, by simp, rfl, by simp⟩
  case round =>
    obtain ⟨p, C, hp1, hp, rfl, hB, hown, hCl, HCC⟩ := hrel
    by_cases hlt : p < s.size
    · go_wp2_with fail
      go_loop [8, 9] (fun bv iv => ∃ (i : Nat) (b : Bool), i ≤ 30 ∧ bv = .bool b ∧ iv = .int .i64 i) (fun _ i => 31 - (intOf i).toNat)
      case atStart => exact ⟨0, false, by omega, rfl, rfl⟩
      case round =>
        obtain ⟨i, b, hi30, rfl, rfl⟩ := hrel
        by_cases hil : i < len1 ∧ i < 30
        · obtain ⟨hil, hi3⟩ := hil
          cases b
          · obtain ⟨x, hx, -⟩ := list_drop_cons z i (by have := HLEN.out; omega)
            obtain ⟨g, o, rfl, hg, hcell⟩ := HI.out.at (by have := HLEN.out; omega)
            have q1 := (hB.cell (p := ⟨g, o + i, none⟩) hg).trans (hcell i x hx)
            have hxb := HZB.out x (List.mem_of_getElem? hx)
            clear hx hcell
            go_wp2_with fail
            refine (mod_any x s.size wr (by omega) (by omega) hxb).mono ?_
            rintro e w5 ⟨rfl, rfl⟩
            obtain ⟨y, hy⟩ : ∃ y, y = x % 18446744073709551616 % (s.size : Int) := ⟨_, rfl⟩
            rw [← hy]
            clear hy
            go_wp2
            go_round
            case rel => exact ⟨i + 1, (y == (p : Int)), by omega, rfl, by go_num⟩
            case measure => simp [intOf]; omega
          · go_wp2
            go_round
            case rel => exact ⟨i + 1, true, by omega, rfl, by go_num⟩
            case measure => simp [intOf]; omega
        · by_cases hil1 : i < len1
          all_goals
            cases b
            · go_wp2
              go_roundw
              case rel => exact ⟨p + 1, C, by omega, by omega, by go_num, hB, hown, by omega, HCC.out.1, fun x hx => by have := HCC.out.2 x hx; omega⟩
              case measure => simp [intOf]; omega
            · go_wp2_with (at_builtin; go_must (refine wpList_app _ rfl (.tmp 49) (.tmp 51) 23 rfl w.heap.size 3 (.int .i64 0) 8 Try.underlying23 Try.info3 rfl _ C.length _ rfl (hown.alloc _) (some ⟨wr.heap.size, 0, none⟩) 1 1 [.int .i64 p] rfl rfl (vals_new _ _ _ _ rfl) (fun h => by cases h) (by simp [Value.oneCell']) (by omega) (by omega) (by have := hB.size; simp; omega) ?_))
              intro v' w3 hown' hgrow _
              have hB' := below_app (hB.alloc hB.size _) hgrow (hown.alloc _) (by have := hB.size; simp; omega) (Nat.le_refl _)
              have hcc : cutsB s.size 1 (C ++ [(p : Int)]) = true ∧ ∀ x ∈ C ++ [(p : Int)], x < ((p + 1 : Nat) : Int) := by
                refine ⟨cutsB_snoc _ _ _ _ HCC.out.1 HCC.out.2 (by omega) (by omega), fun x hx => ?_⟩
                rcases List.mem_append.1 hx with hx | hx
                · have := HCC.out.2 x hx; omega
                · simp at hx; omega
              have HCN := hid hcc
              clear hcc
              go_wp2
              go_roundw
              case rel => exact ⟨p + 1, C ++ [(p : Int)], by omega, by omega, by go_num, hB', by simpa using hown', by simp; omega, HCN⟩
              case measure => simp [intOf]; omega
    · obtain ⟨ac, cc, rfl, hic⟩ := ownsRow_ints hown
      obtain ⟨-, hcc, hnc⟩ := ownsRow_facts hown
      have HIC := hid hic
      have HCB := hid HCC.out.1
      have HC0 := hid (cutsB_one HCC.out.1)
      clear hown hic HCC
      obtain ⟨v, hv⟩ : ∃ v, v = sgnOf s.data.toList.length 1 0 C := ⟨_, rfl⟩
      have hsg : Sgn v := by rw [hv]; exact sgnOf_sgn _ _ _ _ (.inl rfl)
      have hvl : v.length = s.data.toList.length := by rw [hv, sgnOf_len]
      have hsp := shares_pick s.data.toList C HC0.out
      rw [← hv] at hsp
      have hinv : ShInv s.data.toList (pick 1 s.data.toList v) (pick (-1) s.data.toList v) v C 0 0 0 0 0 := by
        refine ⟨rfl, rfl, ?_⟩
        have e := cutsAt_sgnOf s.data.toList.length 1 0 C (.inl rfl) (by rw [Nat.zero_add]; exact HC0.out)
        rw [← hv] at e
        exact e.symm
      have hpl := pick_len s.data.toList v hsg hvl
      obtain ⟨A, hA⟩ : ∃ A, A = mkS (pick 1 s.data.toList v) := ⟨_, rfl⟩
      obtain ⟨B, hB'⟩ : ∃ B, B = mkS (pick (-1) s.data.toList v) := ⟨_, rfl⟩
      have hAd : A.data.toList = pick 1 s.data.toList v := by rw [hA]; rfl
      have hBd : B.data.toList = pick (-1) s.data.toList v := by rw [hB']; rfl
      have hAB : A.size + B.size = s.size := by rw [hA, hB', mkS_size, mkS_size]; exact hpl
      have hokA : A.data.toList.all okb = true := by rw [hA, mkS_data]; have := shLoop_all s.data.toList HOK.out C 0 0 [] [] rfl rfl; rw [hsp] at this; exact this.1
      have hokB : B.data.toList.all okb = true := by rw [hB', mkS_data]; have := shLoop_all s.data.toList HOK.out C 0 0 [] [] rfl rfl; rw [hsp] at this; exact this.2
      have hsv : sharesV s.data.toList C = .tuple #[.string A, .string B, .int .i64 0] := by
        rw [sharesV, if_pos (by rw [sharesE]; have := HC.out; simp only [evenChainB, Bool.and_eq_true] at this; rw [this.1]; exact HCB.out), hsp, hA, hB']
      have hfair : fairB s.data.toList C = sameB A.data.toList B.data.toList := by
        rw [fairB, hAd, hBd]
        have := (shLoop_share s.data.toList C 0 [] []).1
        rw [hsp] at this
        simp only [List.nil_append] at this
        rw [← (Prod.mk.injEq _ _ _ _).mp this |>.1, ← (Prod.mk.injEq _ _ _ _).mp this |>.2]
      have hck : checkE s.data.toList C = if sameB A.data.toList B.data.toList then 0 else 10 := by
        rw [checkE, HC.out, ← hfair, show cutsB s.data.toList.length 1 C = true from HCB.out]; rfl
      have hinv' : ShInv s.data.toList A.data.toList B.data.toList v C 0 0 0 0 0 := by rw [hAd, hBd]; exact hinv
      have HSG := hid hsg
      have HVL := hid hvl
      have HSV := hid hsv
      have HCK := hid hck
      have HINV := hid hinv'
      have HOA := hid hokA
      have HOB := hid hokB
      have HAB := hid hAB
      have hAs : A.size ≤ 24 := by omega
      have hBs : B.size ≤ 24 := by omega
      clear hv hsg hvl hsp hinv hpl hA hB' hAd hBd hokA hokB hsv hfair hck hinv'
      go_wp2_with fail
      refine (sharesE_any s ac cc C wr (by omega) HIC.out hnc hcc (by omega)).mono ?_
      rintro e w3 ⟨rfl, hb3⟩
      rw [HSV.out]
      have HIC := hid (HIC.out.below hb3 (Nat.le_refl _))
      have hb3 := hB.trans (hb3.mono hB.size)
      clear hB
      have hne : ((A.size : Int) + B.size != s.size) = false := by rw [bne_eq_false_iff_eq]; omega
      clear hAB
      go_wp2_with fail
      go_loopw [13, 14, 15, 16, 17] (fun iv kv cv nv av wx => ∃ (i k car next q : Nat), iv = .int .i64 i ∧ kv = .int .i64 k ∧ cv = .int .i64 car ∧ nv = .int .i64 next ∧ av = .int .i64 q ∧ q ≤ s.size ∧ i ≤ q ∧ k ≤ q ∧ car < 2 ∧ next ≤ C.length ∧ Below w3.heap.size w3 wx ∧ Hid (ShInv s.data.toList A.data.toList B.data.toList v C q i k next car)) (fun _ _ _ _ a _ => s.size - (intOf a).toNat)
      case atStart => exact ⟨0, 0, 0, 0, 0, rfl, rfl, rfl, rfl, rfl, by omega, by omega, by omega, by omega, by omega, Below.refl _ _, HINV⟩
      case round =>
        obtain ⟨i, k, car, next, q, rfl, rfl, rfl, rfl, rfl, hq, hi, hk, hcar, hnx, hW, HS⟩ := hrel
        by_cases hqs : q < s.size
        · obtain ⟨y, hy, hcut, hp, hm⟩ := HS.out.step HSG.out HVL.out hqs
          have HIW := hid (HIC.out.below hW (Nat.le_refl _))
          rcases (show car = 0 ∨ car = 1 by omega) with rfl | rfl
          · rcases hy with rfl | rfl
            · have hcut : ∀ c, C[next]? = some c → c ≠ (q : Int) := by
                rcases hcut with ⟨_, h⟩ | ⟨h, _⟩
                · exact h
                · simp at h
              by_cases hnl : next < C.length
              · obtain ⟨c, hcx⟩ : ∃ c, C[next]? = some c := ⟨_, List.getElem?_eq_getElem hnl⟩
                have hcq := hcut c hcx
                clear hcut
                have hst := hp rfl
                obtain ⟨hlet, hnext⟩ := hst
                have HNX := hid (show ShInv s.data.toList A.data.toList B.data.toList v C (q + 1) (i + 1) k (next) 0 from by simpa using hnext)
                obtain ⟨hj, hje⟩ := byte_eq A s i q hqs hlet
                have hbne : ((A[i].toNat : Int) != (s[q].toNat : Int)) = false := by rw [hje]; simp
                obtain ⟨g, o, rfl, hg, hcell⟩ := HIW.out.at (by omega)
                have q1 := hcell next _ hcx
                have hq2 : (c == (q : Int)) = false := beq_eq_false_iff_ne.2 hcq
                clear hcell hcx
                clear hlet hnext hje hp hm HS HINV
                go_wp2
                go_quiet (fail)
                go_wp2
                go_roundw
                case rel => exact ⟨i + 1, k, 0, next, q + 1, by go_num, by go_num, by go_num, by go_num, by go_num, by omega, by omega, by omega, by omega, by omega, below_drewN hW _, HNX⟩
                case measure => simp [intOf]; omega
              · clear hcut
                have hst := hp rfl
                obtain ⟨hlet, hnext⟩ := hst
                have HNX := hid (show ShInv s.data.toList A.data.toList B.data.toList v C (q + 1) (i + 1) k (next) 0 from by simpa using hnext)
                obtain ⟨hj, hje⟩ := byte_eq A s i q hqs hlet
                have hbne : ((A[i].toNat : Int) != (s[q].toNat : Int)) = false := by rw [hje]; simp
                clear hlet hnext hje hp hm HS HINV
                go_wp2
                go_quiet (fail)
                go_wp2
                go_roundw
                case rel => exact ⟨i + 1, k, 0, next, q + 1, by go_num, by go_num, by go_num, by go_num, by go_num, by omega, by omega, by omega, by omega, by omega, below_drewN hW _, HNX⟩
                case measure => simp [intOf]; omega
            · have hcx : C[next]? = some (q : Int) := by
                rcases hcut with ⟨h, _⟩ | ⟨_, h⟩
                · simp at h
                · exact h
              have hnl : next < C.length := (List.getElem?_eq_some_iff.1 hcx).1
              clear hcut
              have hst := hm rfl
              obtain ⟨hlet, hnext⟩ := hst
              have HNX := hid (show ShInv s.data.toList A.data.toList B.data.toList v C (q + 1) i (k + 1) (next + 1) 1 from by simpa using hnext)
              obtain ⟨hj, hje⟩ := byte_eq B s k q hqs hlet
              have hbne : ((B[k].toNat : Int) != (s[q].toNat : Int)) = false := by rw [hje]; simp
              obtain ⟨g, o, rfl, hg, hcell⟩ := HIW.out.at (by omega)
              have q1 := hcell next _ hcx
              clear hcell hcx
              clear hlet hnext hje hp hm HS HINV
              go_wp2
              go_quiet (fail)
              go_wp2
              go_roundw
              case rel => exact ⟨i, k + 1, 1, next + 1, q + 1, by go_num, by go_num, by go_num, by go_num, by go_num, by omega, by omega, by omega, by omega, by omega, below_drewN hW _, HNX⟩
              case measure => simp [intOf]; omega
          · rcases hy with rfl | rfl
            · have hcx : C[next]? = some (q : Int) := by
                rcases hcut with ⟨h, _⟩ | ⟨_, h⟩
                · simp at h
                · exact h
              have hnl : next < C.length := (List.getElem?_eq_some_iff.1 hcx).1
              clear hcut
              have hst := hp rfl
              obtain ⟨hlet, hnext⟩ := hst
              have HNX := hid (show ShInv s.data.toList A.data.toList B.data.toList v C (q + 1) (i + 1) k (next + 1) 0 from by simpa using hnext)
              obtain ⟨hj, hje⟩ := byte_eq A s i q hqs hlet
              have hbne : ((A[i].toNat : Int) != (s[q].toNat : Int)) = false := by rw [hje]; simp
              obtain ⟨g, o, rfl, hg, hcell⟩ := HIW.out.at (by omega)
              have q1 := hcell next _ hcx
              clear hcell hcx
              clear hlet hnext hje hp hm HS HINV
              go_wp2
              go_quiet (fail)
              go_wp2
              go_roundw
              case rel => exact ⟨i + 1, k, 0, next + 1, q + 1, by go_num, by go_num, by go_num, by go_num, by go_num, by omega, by omega, by omega, by omega, by omega, below_drewN hW _, HNX⟩
              case measure => simp [intOf]; omega
            · have hcut : ∀ c, C[next]? = some c → c ≠ (q : Int) := by
                rcases hcut with ⟨_, h⟩ | ⟨h, _⟩
                · exact h
                · simp at h
              by_cases hnl : next < C.length
              · obtain ⟨c, hcx⟩ : ∃ c, C[next]? = some c := ⟨_, List.getElem?_eq_getElem hnl⟩
                have hcq := hcut c hcx
                clear hcut
                have hst := hm rfl
                obtain ⟨hlet, hnext⟩ := hst
                have HNX := hid (show ShInv s.data.toList A.data.toList B.data.toList v C (q + 1) i (k + 1) (next) 1 from by simpa using hnext)
                obtain ⟨hj, hje⟩ := byte_eq B s k q hqs hlet
                have hbne : ((B[k].toNat : Int) != (s[q].toNat : Int)) = false := by rw [hje]; simp
                obtain ⟨g, o, rfl, hg, hcell⟩ := HIW.out.at (by omega)
                have q1 := hcell next _ hcx
                have hq2 : (c == (q : Int)) = false := beq_eq_false_iff_ne.2 hcq
                clear hcell hcx
                clear hlet hnext hje hp hm HS HINV
                go_wp2
                go_quiet (fail)
                go_wp2
                go_roundw
                case rel => exact ⟨i, k + 1, 1, next, q + 1, by go_num, by go_num, by go_num, by go_num, by go_num, by omega, by omega, by omega, by omega, by omega, below_drewN hW _, HNX⟩
                case measure => simp [intOf]; omega
              · clear hcut
                have hst := hm rfl
                obtain ⟨hlet, hnext⟩ := hst
                have HNX := hid (show ShInv s.data.toList A.data.toList B.data.toList v C (q + 1) i (k + 1) (next) 1 from by simpa using hnext)
                obtain ⟨hj, hje⟩ := byte_eq B s k q hqs hlet
                have hbne : ((B[k].toNat : Int) != (s[q].toNat : Int)) = false := by rw [hje]; simp
                clear hlet hnext hje hp hm HS HINV
                go_wp2
                go_quiet (fail)
                go_wp2
                go_roundw
                case rel => exact ⟨i, k + 1, 1, next, q + 1, by go_num, by go_num, by go_num, by go_num, by go_num, by omega, by omega, by omega, by omega, by omega, below_drewN hW _, HNX⟩
                case measure => simp [intOf]; omega
        · have HIW := hid (HIC.out.below hW (Nat.le_refl _))
          have hbW : Below w.heap.size w wr := hb3.trans (hW.mono hb3.size)
          obtain ⟨sb, hsb⟩ : ∃ b, b = sameB A.data.toList B.data.toList := ⟨_, rfl⟩
          rw [← hsb] at HCK
          have hE : ∀ W, (Op.equalIn 10000 22 (.agg #[.int .i64 (cn A.data.toList 0), .int .i64 (cn A.data.toList 1), .int .i64 (cn A.data.toList 2), .int .i64 (cn A.data.toList 3)]) (.agg #[.int .i64 (cn B.data.toList 0), .int .i64 (cn B.data.toList 1), .int .i64 (cn B.data.toList 2), .int .i64 (cn B.data.toList 3)])).run Try.prog W = .ok sb W := by
            intro W
            rw [eq4, hsb]
            congr 1
            rw [sameB, Bool.eq_iff_iff]
            simp only [Bool.and_eq_true, beq_iff_eq]
            omega
          have hq2 : ¬ q < s.size := hqs
          clear hsb HINV HS
          go_wp2_with fail
          refine (check_any s ac cc C wr (by omega) HIW.out hnc hcc (by omega)).mono ?_
          rintro e w4 ⟨rfl, hb4⟩
          rw [HCK.out]
          have hb4 := hbW.trans (hb4.mono hbW.size)
          cases sb
          all_goals
            simp only [if_true, Bool.false_eq_true, if_false]
            go_wp2_with fail
            refine (Letters_any A w4 (by omega) HOA.out).mono ?_
            rintro e w5 ⟨rfl, hb5⟩
            have hb5 := hb4.trans (hb5.mono hb4.size)
            go_wp2_with fail
            refine (Letters_any B w5 (by omega) HOB.out).mono ?_
            rintro e w6 ⟨rfl, hb6⟩
            have hb6 := hb5.trans (hb6.mono hb5.size)
            go_wp2_with fail
            refine (awake_any w6).mono ?_
            rintro e w7 ⟨rfl, hb7⟩
            go_wp2
            go_ret
            exact ⟨rfl, hb6.trans (hb7.mono hb6.size)⟩
end Go.Proofs.Ythelnggbcgjbcaa
