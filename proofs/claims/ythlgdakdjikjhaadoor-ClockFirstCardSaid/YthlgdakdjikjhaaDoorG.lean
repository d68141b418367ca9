/-
  Walks: Reset, Apart.
-/
import Derived.Test.YthlgdakdjikjhaaDoorF
namespace Go.Proofs.YthlgdakdjikjhaaDoor
open Go.RowKit Go.ChangeMaps
attribute [local go_sem] Oper.semAt_some

/-- The first image that is wanted. -/
def firstE (M : List (List Nat)) (s : Nat) (wt : Nat → Bool) : Option Ent := (reach M s).find? (fun e => wt e.set)
def srchV : Option Ent → Value
  | some x => .tuple #[.string (mkS x.word), .int .i64 x.set, .bool true]
  | none => .tuple #[.string ⟨#[]⟩, .int .i64 0, .bool false]
theorem search_pure (M : List (List Nat)) (s : Nat) (fid : Nat) (bd : Array Value) (wt : Nat → Bool) (a : Option Addr) (c : Nat) (w : World)
    (hM : OkM M) (hs : s < 2 ^ nst M) (h0 : s ≠ 0) (hr : RowsAt w a (intM M)) (EN : ∀ args W, (callFunc fid args).run Tryd.prog W = .ok (.enter fid args) W)
    (CW : ∀ q W, q < 512 → Below w.heap.size w W → Calls Tryd.prog fid (#[.int .i64 (q : Int)] ++ bd) W fun e w' => e = .returned (.bool (wt q)) ∧ Below W.heap.size W w') :
    Calls Tryd.prog 52 #[.slice a M.length c, .int .i64 s, .func (.func fid) #[] bd] w fun e w' => e = .returned (srchV (firstE M s wt)) ∧ Below w.heap.size w w' := by
  refine (search_any M s fid bd wt (fun _ W => Below w.heap.size w W) a c w hM hs h0 (Below.refl _ _) EN (fun _ W h => hr.below h (Nat.le_refl _)) (fun _ W W' h1 h2 => h2.trans h1) ?_).mono ?_
  · intro pre q W hq hb _
    refine (CW q W hq hb).mono ?_
    rintro e w' ⟨rfl, hb'⟩
    exact ⟨rfl, hb.trans (hb'.mono hb.size), KeptAbove.of_below hb'⟩
  · rintro e w' ⟨vis, hb, hm⟩
    refine ⟨?_, hb⟩
    unfold firstE
    split at hm
    · rename_i x hx; rw [hx, hm]; rfl
    · rename_i hx; rw [hx, hm.1]; rfl
theorem enter54 : ∀ args W, (callFunc 54 args).run Tryd.prog W = .ok (.enter 54 args) W := fun args W => by kernel_rfl
/-- Has a set one state? -/
def oneB (q : Nat) : Bool := sizeN q == 1
theorem search_one (M : List (List Nat)) (s : Nat) (a : Option Addr) (c : Nat) (w : World) (hM : OkM M) (hs : s < 2 ^ nst M) (h0 : s ≠ 0) (hr : RowsAt w a (intM M)) :
    Calls Tryd.prog 52 #[.slice a M.length c, .int .i64 s, .func (.func 54) #[] #[]] w fun e w' => e = .returned (srchV (firstE M s oneB)) ∧ Below w.heap.size w w' :=
  search_pure M s 54 #[] oneB a c w hM hs h0 hr enter54 fun q W hq _ => (single_any q W hq).mono fun e w' h => ⟨h.1, by rw [← h.2]; exact Below.refl _ _⟩
theorem firstE_set {M : List (List Nat)} (hM : OkM M) {s : Nat} (hs : s < 2 ^ nst M) (h0 : s ≠ 0) {wt : Nat → Bool} {x : Ent} (h : firstE M s wt = some x) : x ∈ reach M s ∧ x.set < 512 ∧ x.set ≠ 0 ∧ wt x.set = true := by
  have hm := List.mem_of_find?_eq_some h
  have hg := reach_good hM hs
  obtain ⟨j, hj⟩ := List.getElem?_of_mem hm
  exact ⟨hm, Nat.lt_of_lt_of_le (hg.lt x hm) (Nat.pow_le_pow_right (n := 2) (by omega) hM.n9), hg.ne hM h0 j x hj, List.find?_some (p := fun e : Ent => wt e.set) h⟩
/-- The set of all states. -/
def allS (M : List (List Nat)) : Nat := 2 ^ nst M - 1
theorem allS_lt {M : List (List Nat)} (_h : OkM M) : allS M < 2 ^ nst M := by unfold allS; have := Nat.two_pow_pos (nst M); omega
theorem allS_ne {M : List (List Nat)} (h : OkM M) : allS M ≠ 0 := by
  unfold allS
  have h1 : 2 ^ 1 ≤ 2 ^ nst M := Nat.pow_le_pow_right (by omega) h.n1
  omega
def resetV : Option Ent → Value
  | some x => .tuple #[.string (mkS x.word), .int .i64 (lowN x.set), .int .i64 0]
  | none => .tuple #[.string ⟨#[]⟩, .int .i64 0, .int .i64 6]

/-- 'isMachine' of a machine. -/
theorem isM_yes (a : Option Addr) (c : Nat) (M : List (List Nat)) (w : World) (hM : OkM M) (hr : RowsAt w a (intM M)) : Calls Tryd.prog 51 #[.slice a M.length c] w fun e w' => e = .returned (.bool true) ∧ Below w.heap.size w w' := by
  have := isMachine_any a c (intM M) w hr (by rw [intM_length]; have := hM.b4; omega) (fun r h => by
    obtain ⟨x, hx, rfl⟩ := List.mem_map.1 h
    rw [List.length_map, hM.row x hx]; have := hM.n9; omega)
  rw [intM_length, ok_machine M hM] at this
  exact this

set_option maxHeartbeats 1000000 in
theorem Reset_yes (a : Option Addr) (c : Nat) (M : List (List Nat)) (w : World) (hM : OkM M) (hr : RowsAt w a (intM M)) (hG : Glob w) :
    Calls Tryd.prog 21 #[.slice a M.length c] w fun e w' => e = .returned (resetV (firstE M (allS M) oneB)) ∧ Below w.heap.size w w' := by
  have HW := hid (isM_yes a c M w hM hr)
  have HA := hid (fun (W : World) (hb : Below w.heap.size w W) => all_any a c M W hM (hr.below hb (Nat.le_refl _)))
  have HS := hid (fun (W : World) (hb : Below w.heap.size w W) => search_one M (allS M) a c W hM (allS_lt hM) (allS_ne hM) (hr.below hb (Nat.le_refl _)))
  have HF := fun x => firstE_set hM (allS_lt hM) (allS_ne hM) (wt := oneB) (x := x)
  have HG := hid hG
  have hall : 2 ^ nst M - 1 = allS M := rfl
  rw [hall] at HA
  generalize allS M = s at *
  cases hf : firstE M s oneB with
  | none =>
    rw [hf] at HS
    simp only [srchV] at HS
    clear HF hf hall hr hG
    go_enter Tryd.func21, Tryd.ntmps21
    go_wp2_with fail
    refine HW.out.mono ?_
    rintro e w1 ⟨rfl, hb1⟩
    go_wp2_with fail
    refine (HA.out w1 hb1).mono ?_
    rintro e w2 ⟨rfl, rfl⟩
    go_wp2_with fail
    refine (HS.out w1 hb1).mono ?_
    rintro e w2 ⟨rfl, hb2⟩
    replace hb2 := hb1.trans (hb2.mono hb1.size)
    go_wp2_with fail
    refine bodyPost_ret (results_tmp3 rfl _ _ _) rfl ?_
    exact ⟨rfl, hb2⟩
  | some x =>
    obtain ⟨-, x5, x0, -⟩ := HF x hf
    rw [hf] at HS
    simp only [srchV] at HS
    have e1 : IntKind.u64.wrap (x.set : Int) = x.set := IntWalk.u64_in _ (by omega)
    clear HF hf hall hr hG
    go_enter Tryd.func21, Tryd.ntmps21
    go_wp2_with fail
    refine HW.out.mono ?_
    rintro e w1 ⟨rfl, hb1⟩
    go_wp2_with fail
    refine (HA.out w1 hb1).mono ?_
    rintro e w2 ⟨rfl, rfl⟩
    go_wp2_with fail
    refine (HS.out w1 hb1).mono ?_
    rintro e w2 ⟨rfl, hb2⟩
    replace hb2 := hb1.trans (hb2.mono hb1.size)
    go_wp2_with fail
    refine (tz_any x.set w2 (HG.out.next hb2) x5 x0).mono ?_
    rintro e w3 ⟨rfl, rfl⟩
    go_wp2_with fail
    refine bodyPost_ret (results_tmp3 rfl _ _ _) rfl ?_
    exact ⟨rfl, hb2⟩

set_option maxHeartbeats 1000000 in
theorem Reset_no (a : Option Addr) (c : Nat) (X : List (List Int)) (w : World) (hr : RowsAt w a X) (hl : X.length ≤ 1000) (hl2 : ∀ r ∈ X, r.length ≤ 1000) (hm : machineB X = false) :
    Calls Tryd.prog 21 #[.slice a X.length c] w fun e w' => e = .returned (.tuple #[.string ⟨#[]⟩, .int .i64 0, .int .i64 2]) ∧ Below w.heap.size w w' := by
  have HW := hid (isMachine_any a c X w hr hl hl2)
  rw [hm] at HW
  clear hm hr hl2
  go_enter Tryd.func21, Tryd.ntmps21
  go_wp2_with fail
  refine HW.out.mono ?_
  rintro e w1 ⟨rfl, hb1⟩
  go_wp2_with fail
  refine bodyPost_ret (results_tmp3 rfl _ _ _) rfl ?_
  exact ⟨rfl, hb1⟩
end Go.Proofs.YthlgdakdjikjhaaDoor
