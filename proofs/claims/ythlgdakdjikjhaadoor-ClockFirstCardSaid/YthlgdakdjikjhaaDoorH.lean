/-
  Walks: Apart.
-/
import Derived.Test.YthlgdakdjikjhaaDoorG
import Derived.Deep.RegionLaw
namespace Go.Proofs.YthlgdakdjikjhaaDoor
open Go.RowKit Go.ChangeMaps
attribute [local go_sem] Oper.semAt_some

/-- The set of two states. -/
def pairN (p q : Nat) : Nat := 2 ^ p ||| 2 ^ q
theorem pairN_lt {n p q : Nat} (hp : p < n) (hq : q < n) : pairN p q < 2 ^ n := Nat.or_lt_two_pow (Nat.pow_lt_pow_right (by omega) hp) (Nat.pow_lt_pow_right (by omega) hq)
theorem pow_wrapK (x : Nat) (h : x < 9) : IntKind.i64.wrap ((2 : Int) ^ x) = ((2 ^ x : Nat) : Int) := by
  have h1 := pow_small x h
  rw [← pow_cast]
  generalize 2 ^ x = y at h1
  exact IntWalk.i64_in _ (by omega)
theorem pair_bits (p q : Nat) (hp : p < 9) (hq : q < 9) : bits .or .i64 (IntKind.i64.wrap ((2 : Int) ^ p)) (IntKind.i64.wrap ((2 : Int) ^ q)) = (pairN p q : Int) := by
  have h1 := pow_small p hp
  have h2 := pow_small q hq
  rw [pow_wrapK p hp, pow_wrapK q hq, or_i64 _ _ (by omega) (by omega)]; rfl
theorem pairN_ne (p q : Nat) : pairN p q ≠ 0 := by
  have h1 := Nat.left_le_or (n := 2 ^ p) (m := 2 ^ q)
  have h2 := Nat.two_pow_pos p
  unfold pairN; omega
/-- The first state from q on that is never led together with p. -/
def apI (M : List (List Nat)) (p : Nat) : Nat → Nat → Option Nat
  | 0, _ => none
  | k + 1, q => if (firstE M (pairN p q) oneB).isNone then some q else apI M p k (q + 1)
def apO (M : List (List Nat)) : Nat → Nat → List Nat
  | 0, _ => []
  | k + 1, p => match apI M p (nst M - (p + 1)) (p + 1) with
    | some q => [p, q]
    | none => apO M k (p + 1)
/-- The first two states that are never led to one. -/
def apartL (M : List (List Nat)) : List Nat := apO M (nst M) 0

set_option maxRecDepth 20000 in
set_option maxHeartbeats 1000000 in
theorem apart_any (a : Option Addr) (c : Nat) (M : List (List Nat)) (w : World) (hM : OkM M) (hr : RowsAt w a (intM M)) :
    Calls Tryd.prog 62 #[.slice a M.length c] w (RetN (apartL M) w) := by
  have h1 := hM.b1
  obtain ⟨g, o, b1, c1, rfl, hg, q1, -⟩ := row_at hM hr 0 (by omega)
  rw [Nat.add_zero] at q1
  have hn9 := hM.n9
  have HS := hid (fun (p q : Nat) (hp : p < nst M) (hq : q < nst M) (W : World) (hb : Below w.heap.size w W) => search_one M (pairN p q) (some ⟨g, o, none⟩) c W hM (pairN_lt hp hq) (pairN_ne p q) (hr.below hb (Nat.le_refl _)))
  have HAP := hid (show apartL M = apO M (nst M) 0 from rfl)
  have HO := hid (show ∀ k p, apO M (k + 1) p = match apI M p (nst M - (p + 1)) (p + 1) with | some q => [p, q] | none => apO M k (p + 1) from fun _ _ => rfl)
  have HQ := hid (show w.cell? ⟨g, o, none⟩ = some (.slice b1 (nst M) c1) from q1)
  clear hM hr
  generalize nst M = n at *
  go_enter Tryd.func62, Tryd.ntmps62
  go_wp2_with fail
  go_loopw [12] (fun pv W => ∃ p : Nat, pv = .int .i64 p ∧ p ≤ n ∧ Below w.heap.size w W ∧ Hid (apartL M = apO M (n - p) p)) (fun pv _ => n - (intOf pv).toNat)
  case atStart => exact ⟨0, rfl, by omega, Below.refl _ _, HAP⟩
  case round =>
    obtain ⟨p, rfl, hp, hB, HL⟩ := hrel
    by_cases hlt : p < n
    · go_wp2_with fail
      go_loopw [4] (fun qv W => ∃ q : Nat, qv = .int .i64 q ∧ p + 1 ≤ q ∧ q ≤ n ∧ Below w.heap.size w W ∧ Hid (apI M p (n - (p + 1)) (p + 1) = apI M p (n - q) q)) (fun qv _ => n - (intOf qv).toNat)
      case atStart => exact ⟨p + 1, by go_num, by omega, by omega, hB, rfl⟩
      case round =>
        obtain ⟨q, rfl, hq1, hq, hB2, HI⟩ := hrel
        have q2 := (hB2.cell (p := ⟨g, o, none⟩) hg).trans q1
        by_cases hlq : q < n
        · have C1 := HS.out p q hlt hlq wr.drew hB2.drew
          have HB2 := hid hB2
          have d0 := pair_bits p q (by omega) (by omega)
          cases hf : firstE M (pairN p q) oneB with
          | none =>
            rw [hf] at C1
            simp only [srchV] at C1
            have C1 := hid C1
            have hfin : apartL M = [p, q] := by
              have hi : apI M p (n - (p + 1)) (p + 1) = some q := by
                rw [HI.out, show n - q = (n - (q + 1)) + 1 by omega, apI, hf]; rfl
              rw [HL.out, show n - p = (n - (p + 1)) + 1 by omega, HO.out, hi]
            have HF := hid hfin
            clear hf hfin HI HL HO hB2
            go_wp2_with fail
            go_region_with (go_at_call 52; go_must (refine C1.out.mono ?_); rintro e w1 ⟨rfl, hb1⟩)
            have h1 := HB2.out.drew.trans (hb1.mono HB2.out.drew.size)
            have HB3 := hid h1
            clear h1 hb1 C1
            go_wp2_with fail
            go_ret
            have h1 := HB3.out
            refine ⟨some ⟨w1.heap.size, 0, none⟩, 2, by rw [HF.out]; rfl, ?_, h1.alloc h1.size _⟩
            rw [HF.out]
            exact ⟨rfl, .inr ⟨w1.heap.size, 2, #[.int .i64 (p : Int), .int .i64 (q : Int)], rfl, h1.size, Blk.new w1 _ _, Nat.le_refl _, by decide, rfl, rfl⟩⟩
          | some x =>
            rw [hf] at C1
            simp only [srchV] at C1
            have C1 := hid C1
            have hfin : apI M p (n - (p + 1)) (p + 1) = apI M p (n - (q + 1)) (q + 1) := by
              rw [HI.out, show n - q = (n - (q + 1)) + 1 by omega, apI, hf]; rfl
            have HF := hid hfin
            clear hf hfin HI hB2
            go_wp2_with fail
            go_region_with (go_at_call 52; go_must (refine C1.out.mono ?_); rintro e w1 ⟨rfl, hb1⟩)
            have h1 := HB2.out.drew.trans (hb1.mono HB2.out.drew.size)
            have HB3 := hid h1
            clear h1 hb1 C1
            go_wp2_with fail
            exact ⟨⟨q + 1, by go_num, by omega, by omega, HB3.out, HF⟩, by simp [intOf]; omega⟩
        · have hqn : q = n := by omega
          have hfin : apartL M = apO M (n - (p + 1)) (p + 1) := by
            have hi : apI M p (n - (p + 1)) (p + 1) = none := by
              rw [HI.out, show n - q = 0 by omega]; rfl
            rw [HL.out, show n - p = (n - (p + 1)) + 1 by omega, HO.out, hi]
          have HF := hid hfin
          clear hfin HI HL
          go_wp2_with fail
          exact ⟨⟨p + 1, by go_num, by omega, hB2, HF⟩, by simp [intOf]; omega⟩
    · have hfin : apartL M = [] := by rw [HL.out, show n - p = 0 by omega]; rfl
      have HF := hid hfin
      clear hfin HL
      go_wp2_with fail
      go_ret
      exact ⟨none, 0, by rw [HF.out]; rfl, by rw [HF.out]; exact World.ownsRow_nil _ _ _ _, hB⟩
end Go.Proofs.YthlgdakdjikjhaaDoor
