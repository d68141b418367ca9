/-
  Walks: the tree with one fork is read.
-/
import Derived.Test.YtkmpdcckgibkhaaGreatM
namespace Go.Proofs.YtkmpdcckgibkhaaGreat
open Go.RowKit Go.ChangeMaps

theorem demand_yes (e : Int) (w : World) : Calls Tryz.prog 134 #[.bool true, .int .i64 e] w fun e w' => e = .returned (.tuple #[]) ∧ w = w' := by
  go_enter Tryz.func134, Tryz.ntmps134
  go_wp2_with fail
  go_returns
  exact ⟨rfl, rfl⟩

theorem cons_full (x : UInt8) (r : List UInt8) : (mkS (x :: r)).toList.isEmpty = false := by rw [Lib.toList_data]; rfl
theorem first_byte (x : UInt8) (r : List UInt8) (w : World) : (Instr.index 9 (.string (mkS (x :: r))) (.int .i64 0)).run Tryz.prog w = .ok (.int .u8 x.toNat) w := by kernel_rfl
theorem tail_str (x : UInt8) (r : List UInt8) : (mkS (x :: r)).extract 1 (r.length + 1) = mkS r := mkS_eq _ _ (by rw [data_extract, mkS_data]; simp)

set_option maxHeartbeats 1000000 in
theorem leaf_read (b : Nat) (n : Int) (r : List UInt8) (w : World) (hb : Blk w b #[.string (mkS (46 :: r)), .int .i64 n] 200) (hr : r.length ≤ 100) :
    Calls Tryz.prog 133 #[.pointer (some ⟨b, 0, none⟩)] w fun e w' => e = .returned (.iface 221 (.agg #[])) ∧ w' = w.setCell ⟨b, 0, none⟩ (.string (mkS r)) := by
  obtain ⟨q0, q1, z0, z1⟩ := hb.two
  have h1 := cons_full 46 r
  have h2 := first_byte 46 r
  have h3 := tail_str 46 r
  have h4 : (mkS (46 :: r)).size = r.length + 1 := by rw [mkS_size]; rfl
  go_enter Tryz.func133, Tryz.ntmps133
  go_wp2_with fail
  refine (demand_yes _ _).mono ?_
  rintro e w1 ⟨rfl, rfl⟩
  go_wp2_with fail
  go_ret
  exact ⟨rfl, rfl⟩

set_option maxHeartbeats 2000000 in
theorem fork_read (b : Nat) (w : World) (hb : Blk w b #[.string (mkS [40, 46, 46, 41]), .int .i64 0] 200) :
    Calls Tryz.prog 133 #[.pointer (some ⟨b, 0, none⟩)] w fun e w' => e = .returned (.iface 195 (.agg #[.iface 221 (.agg #[]), .iface 221 (.agg #[])])) ∧ Blk w' b #[.string (mkS []), .int .i64 1] 200 ∧ Below b w w' := by
  obtain ⟨q0, q1, z0, z1⟩ := hb.two
  have h1 := cons_full 40 [46, 46, 41]
  have h2 := first_byte 40 [46, 46, 41]
  have h3 := tail_str 40 [46, 46, 41]
  have h4 : (mkS [40, 46, 46, 41]).size = 4 := rfl
  have h5 : ([46, 46, 41] : List UInt8).length + 1 = 4 := rfl
  rw [h5] at h3
  clear h5
  have j1 := cons_full 41 []
  have j2 := first_byte 41 []
  have j3 := tail_str 41 []
  have j4 : (mkS [41]).size = 1 := rfl
  have bA : Blk (w.setCell ⟨b, 0, none⟩ (.string (mkS [46, 46, 41]))) b #[.string (mkS [46, 46, 41]), .int .i64 0] 200 := hb.set 0 _
  have bB : Blk ((w.setCell ⟨b, 0, none⟩ (.string (mkS [46, 46, 41]))).setCell ⟨b, 1, none⟩ (.int .i64 1)) b #[.string (mkS [46, 46, 41]), .int .i64 1] 200 := bA.set 1 _
  have bC : Blk (((w.setCell ⟨b, 0, none⟩ (.string (mkS [46, 46, 41]))).setCell ⟨b, 1, none⟩ (.int .i64 1)).setCell ⟨b, 0, none⟩ (.string (mkS [46, 41]))) b #[.string (mkS [46, 41]), .int .i64 1] 200 := bB.set 0 _
  have bD : Blk ((((w.setCell ⟨b, 0, none⟩ (.string (mkS [46, 46, 41]))).setCell ⟨b, 1, none⟩ (.int .i64 1)).setCell ⟨b, 0, none⟩ (.string (mkS [46, 41]))).setCell ⟨b, 0, none⟩ (.string (mkS [41]))) b #[.string (mkS [41]), .int .i64 1] 200 := bC.set 0 _
  have HA := hid (And.intro bA (And.intro bB (And.intro bC bD)))
  obtain ⟨a0, a1, y0, y1⟩ := bA.two
  clear bA bB bC bD hb
  go_enter Tryz.func133, Tryz.ntmps133
  go_wp2_with fail
  refine (demand_yes _ _).mono ?_
  rintro e w1 ⟨rfl, rfl⟩
  go_wp2_with fail
  refine (demand_yes _ _).mono ?_
  rintro e w1 ⟨rfl, rfl⟩
  go_wp2_with fail
  refine (leaf_read b 1 [46, 41] _ HA.out.2.1 (by simp)).mono ?_
  rintro e w1 ⟨rfl, rfl⟩
  go_wp2_with fail
  refine (leaf_read b 1 [41] _ HA.out.2.2.1 (by simp)).mono ?_
  rintro e w1 ⟨rfl, rfl⟩
  have bD := HA.out.2.2.2
  generalize hW : (((w.setCell ⟨b, 0, none⟩ (.string (mkS [46, 46, 41]))).setCell ⟨b, 1, none⟩ (.int .i64 1)).setCell ⟨b, 0, none⟩ (.string (mkS [46, 41]))).setCell ⟨b, 0, none⟩ (.string (mkS [41])) = W at *
  obtain ⟨d0, d1, x0, x1⟩ := bD.two
  have hbW : Below b w W := by rw [← hW]; exact ((((Below.refl b w).setCell (Nat.le_refl _) _).setCell (Nat.le_refl _) _).setCell (Nat.le_refl _) _).setCell (Nat.le_refl _) _
  have HW := hid hW
  have HD := hid (And.intro (bD.set 0 (.string (mkS []))) (hbW.setCell (show b ≤ b from Nat.le_refl _) (p := ⟨b, 0, none⟩) (.string (mkS []))))
  clear hW hbW bD
  go_wp2_with fail
  refine (demand_yes _ _).mono ?_
  rintro e w1 ⟨rfl, rfl⟩
  go_wp2_with fail
  go_ret
  exact ⟨rfl, HD.out⟩

end Go.Proofs.YtkmpdcckgibkhaaGreat
