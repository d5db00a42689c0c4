/- sawyerlaw05.WalNames: the walk. -/
import Derived.Test.YtgdamcimpgapgaaGreatDoorNms
import Derived.Test.YtgdamcimpgapgaaGreatDoorMasks
import Derived.Test.YtgdamcimpgapgaaGreatDoorSameI
import Derived.Deep.QuietTactic
import Derived.Deep.RegionHeld3
namespace Go.Proofs.YtgdamcimpgapgaaGreatDoor
open Go.RowKit

theorem rd_lit1 (w : World) (t : TypeId) (fr : Nat × Nat) (a : UInt8) : Rd (w.alloc (.cells #[b8 a] t fr)) (some ⟨w.heap.size, 0, none⟩) 1 (by8 [a]) := by
  refine ⟨rfl, fun _ => ⟨w.heap.size, 0, rfl, fun j u hu => ?_⟩⟩
  rw [Nat.zero_add, cell_of_row _ _ j _ t fr (heap_alloc_new w _)]
  match j, hu with
  | 0, hu => exact hu

/-- between two rounds. -/
structure NmM (w : World) (F' : Nat → Prop) (d : Nat) (D' : Dk) (q cnt : Nat) (wr : World) : Prop where
  disk : DiskIs wr F' d D'
  mod : Mod Non w wr
  far : ∀ g, F' g → w.heap.size ≤ g
  p : NmP D' q cnt

set_option maxRecDepth 100000 in
set_option maxHeartbeats 2000000 in
theorem nm_walk (A : Option Addr) (n c : Nat) (l : List Int) (w : World) (hL : Lay w) (hx : Rd w A n (l.map i64c)) (hn : n ≤ 9223372036854775807) :
    Calls Tryz.prog 3 #[.slice A n c] w fun e w' => e = .returned (.bool true) ∧ Mod Non w w' := by
  have HL := Lib.hid hL
  have HX := Lib.hid hx
  have hcs := fun (w : World) (C : Array Value) (n c : Nat) => Lib.run_convert_bytes_const (P := Tryz.prog) w 31 5 C n c Tryz.underlying31 Tryz.underlying5
  clear hL hx
  go_enter Tryz.func3, Tryz.ntmps3
  go_wp2_with (first
    | (go_at_call 6; refine (awake_any _ HL.out).mono ?_; rintro e w1 ⟨rfl, hm1⟩; have HM1 := Lib.hid hm1)
    | (go_at_call 7; refine (new_yes 1099511627776 _ (HL.out.mod0 HM1.out) (by omega) (by omega)).mono ?_; rintro e w2 ⟨d, F, rfl, hd2, hb2, hF2⟩; have HM2 := Lib.hid (HM1.out.trans0 (Mod.of_below hb2)); have HD2 := Lib.hid hd2; have HF2 : Hid (∀ g, F g → w.heap.size ≤ g) := (fun g hg => Nat.le_trans HM1.out.size (hF2 g hg)); clear hd2 hb2 hF2))
  go_loopw [6, 7] (fun v i wr => ∃ (q cnt : Nat) (F' : Nat → Prop) (D' : Dk), q ≤ n ∧ q ≤ 20 ∧ cnt ≤ q ∧ v = .int .i64 cnt ∧ i = .int .i64 q ∧ Hid (NmM w F' d D' q cnt wr)) (fun _ i _ => n - (intOf i).toNat)
  case atStart =>
    exact ⟨0, 0, F, newD 1099511627776, Nat.zero_le _, by omega, by omega, rfl, rfl, ⟨HD2.out, HM2.out, HF2.out, NmP.start⟩⟩
  case round =>
    obtain ⟨q, cnt, F', D', hqn, hq20, hcq, rfl, rfl, HJ⟩ := hrel
    by_cases hlt : q < n ∧ q < 20
    · obtain ⟨hlt, hlt20⟩ := hlt
      obtain ⟨b, o, rfl, u, hu, hc⟩ := (HX.out.mod0 HJ.out.mod).at_ hlt
      rw [List.getElem?_map] at hu
      cases hq : l[q]? with
      | none => rw [hq] at hu; cases hu
      | some x =>
        rw [hq] at hu
        simp only [Option.map_some, Option.some.injEq] at hu
        subst hu
        simp only [i64c] at hc
        have hcw : Hid (w.cell? ⟨b, o + q, none⟩ = some (.int .i64 x)) := by
          show _ = _
          obtain ⟨b0, o0, hbo, u0, hu0, hcw⟩ := HX.out.at_ hlt
          cases hbo
          rw [List.getElem?_map, hq] at hu0
          simp only [Option.map_some, Option.some.injEq] at hu0
          rw [hcw, ← hu0]
          rfl
        clear hq
        by_cases hr : 0 ≤ x ∧ x ≤ 1099511627776
        · obtain ⟨hr0, hr1⟩ := hr
          obtain ⟨a1, a2⟩ := HJ.out.p.add hr0 hr1 (by omega) (b := [120]) (by simp)
          obtain ⟨D2, hD2⟩ : ∃ D2, (addB D' x [120]).1 = D2 := ⟨_, rfl⟩
          rw [hD2] at a2
          have HA1 := Lib.hid hD2
          have HA2 := Lib.hid a1
          have HN17 : Hid ((nameW x).size = 17) := nameW_17 hr0 hr1
          obtain ⟨nm, hnm⟩ : ∃ nm, nameW x = nm := ⟨_, rfl⟩
          have HNM := Lib.hid hnm
          have hn17 : ((nm.size : Int) == 17) = true := by rw [← HNM.out, HN17.out]; rfl
          cases hh : (findF D'.files (nameW x)).isSome with
          | true =>
            rw [hh] at a2
            have HP2 : Hid (NmP D2 (q + 1) (cnt)) := a2
            have HH := Lib.hid hh
            clear a1 a2 hD2 hnm hh
            go_wp2_with fail
            refine (name_any x _ HJ.out.disk.lay).mono ?_
            rw [HNM.out]
            rintro e w3 ⟨rfl, hm3⟩
            have HM3 := Lib.hid hm3
            clear hm3
            go_wp2_with fail
            refine (has_any nm F' d D' _ (HJ.out.disk.mod0 HM3.out)).mono ?_
            rw [← HNM.out, HH.out, HNM.out]
            rintro e w4 ⟨rfl, hm4⟩
            have HM4 := Lib.hid (HM3.out.trans0 hm4)
            have hc4 : w4.cell? ⟨b, o + q, none⟩ = some (.int .i64 x) := HM4.out.cell hc (fun h => h)
            clear hm4
            go_wp2_with fail
            refine (add_wal F' d D' x _ 1 1 [120] _ ((HJ.out.disk.mod0 HM4.out).mod0 ((Mod.refl Non w4).alloc _)) HJ.out.p.ok (rd_lit1 _ _ _ _) (by omega)).mono ?_
            rw [HA1.out, HA2.out]
            rintro e w5 ⟨rfl, F5, hd5, hm5, hF5⟩
            have HD5 := Lib.hid hd5
            have HM5 := Lib.hid (((HJ.out.mod.trans0 HM4.out).alloc (.cells #[.int .u8 120] 5 (1, 2))).trans hm5 fun g hg => .inr (HJ.out.far g hg))
            have HF5 : Hid (∀ g, F5 g → w.heap.size ≤ g) := fun g hg => (hF5 g hg).elim (HJ.out.far g) fun h => by have := HJ.out.mod.size; have := HM4.out.size; simp at h; omega
            have hc5 : w5.cell? ⟨b, o + q, none⟩ = some (.int .i64 x) := HM5.out.cell hcw.out (fun h => h)
            clear hd5 hm5 hF5
            go_wp2_with fail
            refine (name_any x _ HD5.out.lay).mono ?_
            rw [HNM.out]
            rintro e w6 ⟨rfl, hm6⟩
            have HM6 := Lib.hid hm6
            clear hm6
            go_wp2_with fail
            go_roundw
            case rel => exact ⟨q + 1, cnt, F5, D2, by omega, by omega, by omega, rfl, by go_num, ⟨HD5.out.mod0 HM6.out, HM5.out.trans0 HM6.out, HF5.out, HP2.out⟩⟩
            case measure => simp [intOf]; omega
          | false =>
            rw [hh] at a2
            have HP2 : Hid (NmP D2 (q + 1) (cnt + 1)) := a2
            have HH := Lib.hid hh
            clear a1 a2 hD2 hnm hh
            go_wp2_with fail
            refine (name_any x _ HJ.out.disk.lay).mono ?_
            rw [HNM.out]
            rintro e w3 ⟨rfl, hm3⟩
            have HM3 := Lib.hid hm3
            clear hm3
            go_wp2_with fail
            refine (has_any nm F' d D' _ (HJ.out.disk.mod0 HM3.out)).mono ?_
            rw [← HNM.out, HH.out, HNM.out]
            rintro e w4 ⟨rfl, hm4⟩
            have HM4 := Lib.hid (HM3.out.trans0 hm4)
            have hc4 : w4.cell? ⟨b, o + q, none⟩ = some (.int .i64 x) := HM4.out.cell hc (fun h => h)
            clear hm4
            go_wp2_with fail
            refine (add_wal F' d D' x _ 1 1 [120] _ ((HJ.out.disk.mod0 HM4.out).mod0 ((Mod.refl Non w4).alloc _)) HJ.out.p.ok (rd_lit1 _ _ _ _) (by omega)).mono ?_
            rw [HA1.out, HA2.out]
            rintro e w5 ⟨rfl, F5, hd5, hm5, hF5⟩
            have HD5 := Lib.hid hd5
            have HM5 := Lib.hid (((HJ.out.mod.trans0 HM4.out).alloc (.cells #[.int .u8 120] 5 (1, 2))).trans hm5 fun g hg => .inr (HJ.out.far g hg))
            have HF5 : Hid (∀ g, F5 g → w.heap.size ≤ g) := fun g hg => (hF5 g hg).elim (HJ.out.far g) fun h => by have := HJ.out.mod.size; have := HM4.out.size; simp at h; omega
            have hc5 : w5.cell? ⟨b, o + q, none⟩ = some (.int .i64 x) := HM5.out.cell hcw.out (fun h => h)
            clear hd5 hm5 hF5
            go_wp2_with fail
            refine (name_any x _ HD5.out.lay).mono ?_
            rw [HNM.out]
            rintro e w6 ⟨rfl, hm6⟩
            have HM6 := Lib.hid hm6
            clear hm6
            go_wp2_with fail
            go_roundw
            case rel => exact ⟨q + 1, cnt + 1, F5, D2, by omega, by omega, by omega, by go_num, by go_num, ⟨HD5.out.mod0 HM6.out, HM5.out.trans0 HM6.out, HF5.out, HP2.out⟩⟩
            case measure => simp [intOf]; omega
        · have HA : Hid (addB D' x [120] = (D', 1)) := add_wrong hr
          have HN0 : Hid ((nameW x).size = 0) := nameW_0 hr
          obtain ⟨nm, hnm⟩ : ∃ nm, nameW x = nm := ⟨_, rfl⟩
          have HNM := Lib.hid hnm
          have hn17 : ((nm.size : Int) == 17) = false := by rw [← HNM.out, HN0.out]; rfl
          obtain ⟨hh, hhe⟩ : ∃ hh, (findF D'.files nm).isSome = hh := ⟨_, rfl⟩
          have HH := Lib.hid hhe
          clear hnm hhe
          rcases (show x < 0 ∨ 0 ≤ x ∧ 1099511627776 < x by omega) with hx0 | ⟨hx0, hx1⟩
          all_goals
            clear hr
            go_wp2_with fail
            refine (name_any x _ HJ.out.disk.lay).mono ?_
            rw [HNM.out]
            rintro e w3 ⟨rfl, hm3⟩
            have HM3 := Lib.hid hm3
            clear hm3
            go_wp2_with fail
            refine (has_any nm F' d D' _ (HJ.out.disk.mod0 HM3.out)).mono ?_
            rw [HH.out]
            rintro e w4 ⟨rfl, hm4⟩
            have HM4 := Lib.hid (HM3.out.trans0 hm4)
            have hc4 : w4.cell? ⟨b, o + q, none⟩ = some (.int .i64 x) := HM4.out.cell hc (fun h => h)
            clear hm4
            go_wp2_with fail
            refine (add_wal F' d D' x _ 1 1 [120] _ ((HJ.out.disk.mod0 HM4.out).mod0 ((Mod.refl Non w4).alloc _)) HJ.out.p.ok (rd_lit1 _ _ _ _) (by omega)).mono ?_
            rw [HA.out]
            rintro e w5 ⟨rfl, F5, hd5, hm5, hF5⟩
            have HD5 := Lib.hid hd5
            have HM5 := Lib.hid (((HJ.out.mod.trans0 HM4.out).alloc (.cells #[.int .u8 120] 5 (1, 2))).trans hm5 fun g hg => .inr (HJ.out.far g hg))
            have HF5 : Hid (∀ g, F5 g → w.heap.size ≤ g) := fun g hg => (hF5 g hg).elim (HJ.out.far g) fun h => by have := HJ.out.mod.size; have := HM4.out.size; simp at h; omega
            have hc5 : w5.cell? ⟨b, o + q, none⟩ = some (.int .i64 x) := HM5.out.cell hcw.out (fun h => h)
            clear hd5 hm5 hF5
            go_wp2_with fail
            refine (name_any x _ HD5.out.lay).mono ?_
            rw [HNM.out]
            rintro e w6 ⟨rfl, hm6⟩
            have HM6 := Lib.hid hm6
            clear hm6
            go_wp2_with fail
            go_roundw
            case rel => exact ⟨q + 1, cnt, F5, D', by omega, by omega, by omega, rfl, by go_num, ⟨HD5.out.mod0 HM6.out, HM5.out.trans0 HM6.out, HF5.out, HJ.out.p.later (by omega)⟩⟩
            case measure => simp [intOf]; omega
    · have hend : q = n ∨ q < n ∧ q = 20 := by omega
      have hcb : (cnt : Int) ≤ 20 := by omega
      clear hqn hq20 hcq hlt
      rcases hend with hqe | ⟨hqe, hq2⟩
      all_goals
        first
          | (obtain rfl := hqe)
          | (obtain rfl := hq2)
        go_wp2_with fail
        refine (segs_any F' d D' _ HJ.out.disk HJ.out.p.ok HJ.out.p.names).mono ?_
        rintro e w3 ⟨As, ns, cs, L, us, rfl, hL, hLu, hub, hrs, hns, hcs3, hbs, hm3⟩
        obtain ⟨k1, k2, k3⟩ := names_rise HJ.out.p.ok hL hLu hub
        have hul : us.length = ns := by have := hrs.1; simpa using this
        have hnc : Hid (ns = cnt) := by show ns = cnt; rw [← hul, k1, HJ.out.p.len]
        have HK2 := Lib.hid k2
        have HK3 := Lib.hid k3
        have HUB := Lib.hid hub
        have HUL := Lib.hid hul
        have HRS := Lib.hid hrs
        have HM3 := Lib.hid hm3
        clear k1 k2 k3 hL hLu hub hrs hm3 hul hbs
        go_wp2_with fail
        go_loopw [12] (fun i wr2 => ∃ j : Nat, j ≤ ns ∧ i = .int .i64 j ∧ Hid (Mod Non w3 wr2)) (fun i _ => ns - (intOf i).toNat)
        case atStart => exact ⟨0, Nat.zero_le _, rfl, Mod.refl _ _⟩
        case round =>
          obtain ⟨j, hj, rfl, HJ2⟩ := hrel
          by_cases hlt : j < ns
          · obtain ⟨b, o, rfl, u, hu, hc⟩ := (HRS.out.mod0 HJ2.out).at_ hlt
            rw [List.getElem?_map, List.getElem?_map] at hu
            cases hq : us[j]? with
            | none => rw [hq] at hu; cases hu
            | some y =>
              rw [hq] at hu
              simp only [Option.map_some, Option.some.injEq] at hu
              subst hu
              simp only [i64c] at hc
              have hyb := HUB.out y (List.mem_of_getElem? hq)
              have hyh := HK3.out y (List.mem_of_getElem? hq)
              obtain ⟨nm, hnm⟩ : ∃ nm, walName y = nm := ⟨_, rfl⟩
              rw [hnm] at hyh
              have HH := Lib.hid hyh
              have HNM : Hid (nameW (y : Int) = nm) := by show _ = _; rw [nameW_yes (by omega) (by omega), ← hnm]; rfl
              have HM4 := Lib.hid (HM3.out.trans0 HJ2.out)
              have tok : True := trivial
              clear hnm hyh
              rcases (show j = 0 ∨ 0 < j by omega) with hj0 | hj0
              · have hjd : decide (0 < j) = false := decide_eq_false (by omega)
                clear hq hj0
                go_wp2_with fail
                refine wp_region_held_drew (S := (fun w' => w'.cell? ⟨b, o + j, none⟩ = some (.int .i64 (y : Int)))) (by kernel_rfl) (hc) (fun hHeld => ?_)
                refine wpAnyH_take (i := 0) (oi := { dst := some 91, op := Op.move (Operand.tmp 12), type := 3, pos := "more.go:49", after := #[], guard := none }) (v := ?_) rfl (by kernel_rfl) (by kernel_rfl) (by kernel_rfl) (fun _ _ _ h => h) (Or.inl ⟨by rfl, ?_⟩) hHeld ?_
                rotate_left
                · (intro w0 hS0; (try dsimp only at hS0); go_simp; try with_reducible rfl)
                try simp only [Act.put, List.setIfInBounds_toArray, List.set_cons_zero, List.set_cons_succ]
                refine wpAnyH_take (i := 1) (oi := { dst := some 92, op := Op.binOp BinOp.gtr 3 (Operand.tmp 91) (Operand.const (Value.int IntKind.i64 0)) 3, type := 4, pos := "more.go:49", after := #[{ on := 0, ground := Ground.data }], guard := none }) (v := ?_) rfl (by kernel_rfl) (by kernel_rfl) (by kernel_rfl) (fun _ _ _ h => h) (Or.inl ⟨by rfl, ?_⟩) hHeld ?_
                rotate_left
                · (intro w0 hS0; (try dsimp only at hS0); go_simp; try with_reducible rfl)
                try simp only [Act.put, List.setIfInBounds_toArray, List.set_cons_zero, List.set_cons_succ]
                refine wpAnyH_take (i := 2) (oi := { dst := some 93, op := Op.move (Operand.tmp 92), type := 4, pos := "more.go:49", after := #[{ on := 1, ground := Ground.data }], guard := none }) (v := ?_) rfl (by kernel_rfl) (by kernel_rfl) (by kernel_rfl) (fun _ _ _ h => h) (Or.inl ⟨by rfl, ?_⟩) hHeld ?_
                rotate_left
                · (intro w0 hS0; (try dsimp only at hS0); go_simp; try with_reducible rfl)
                try simp only [Act.put, List.setIfInBounds_toArray, List.set_cons_zero, List.set_cons_succ]
                refine wpAnyH_take (i := 3) (oi := { dst := some 94, op := Op.move (Operand.tmp 11), type := 22, pos := "more.go:49", after := #[{ on := 2, ground := Ground.guard }], guard := some (2, true) }) (v := undef) rfl (by kernel_rfl) (by kernel_rfl) (by kernel_rfl) (fun _ _ _ h => h) (Or.inr ⟨by rfl, rfl⟩) hHeld ?_
                try simp only [Act.put, List.setIfInBounds_toArray, List.set_cons_zero, List.set_cons_succ]
                refine wpAnyH_take (i := 4) (oi := { dst := some 95, op := Op.move (Operand.tmp 12), type := 3, pos := "more.go:49", after := #[{ on := 2, ground := Ground.guard }], guard := some (2, true) }) (v := undef) rfl (by kernel_rfl) (by kernel_rfl) (by kernel_rfl) (fun _ _ _ h => h) (Or.inr ⟨by rfl, rfl⟩) hHeld ?_
                try simp only [Act.put, List.setIfInBounds_toArray, List.set_cons_zero, List.set_cons_succ]
                refine wpAnyH_take (i := 5) (oi := { dst := some 96, op := Op.binOp BinOp.sub 3 (Operand.tmp 95) (Operand.const (Value.int IntKind.i64 1)) 3, type := 3, pos := "more.go:49", after := #[{ on := 4, ground := Ground.data }, { on := 2, ground := Ground.guard }], guard := some (2, true) }) (v := undef) rfl (by kernel_rfl) (by kernel_rfl) (by kernel_rfl) (fun _ _ _ h => h) (Or.inr ⟨by rfl, rfl⟩) hHeld ?_
                try simp only [Act.put, List.setIfInBounds_toArray, List.set_cons_zero, List.set_cons_succ]
                refine wpAnyH_take (i := 6) (oi := { dst := some 97, op := Op.indexAddr 22 (Operand.tmp 94) (Operand.tmp 96), type := 0, pos := "more.go:49", after := #[{ on := 3, ground := Ground.data }, { on := 5, ground := Ground.data }, { on := 2, ground := Ground.guard }], guard := some (2, true) }) (v := undef) rfl (by kernel_rfl) (by kernel_rfl) (by kernel_rfl) (fun _ _ _ h => h) (Or.inr ⟨by rfl, rfl⟩) hHeld ?_
                try simp only [Act.put, List.setIfInBounds_toArray, List.set_cons_zero, List.set_cons_succ]
                refine wpAnyH_take (i := 7) (oi := { dst := some 98, op := Op.load 3 (Operand.tmp 97), type := 3, pos := "more.go:49", after := #[{ on := 6, ground := Ground.data }, { on := 2, ground := Ground.guard }], guard := some (2, true) }) (v := undef) rfl (by kernel_rfl) (by kernel_rfl) (by kernel_rfl) (fun _ _ _ h => h) (Or.inr ⟨by rfl, rfl⟩) hHeld ?_
                try simp only [Act.put, List.setIfInBounds_toArray, List.set_cons_zero, List.set_cons_succ]
                refine wpAnyH_take (i := 8) (oi := { dst := some 99, op := Op.move (Operand.tmp 11), type := 22, pos := "more.go:49", after := #[{ on := 2, ground := Ground.guard }], guard := some (2, true) }) (v := undef) rfl (by kernel_rfl) (by kernel_rfl) (by kernel_rfl) (fun _ _ _ h => h) (Or.inr ⟨by rfl, rfl⟩) hHeld ?_
                try simp only [Act.put, List.setIfInBounds_toArray, List.set_cons_zero, List.set_cons_succ]
                refine wpAnyH_take (i := 9) (oi := { dst := some 100, op := Op.move (Operand.tmp 12), type := 3, pos := "more.go:49", after := #[{ on := 2, ground := Ground.guard }], guard := some (2, true) }) (v := undef) rfl (by kernel_rfl) (by kernel_rfl) (by kernel_rfl) (fun _ _ _ h => h) (Or.inr ⟨by rfl, rfl⟩) hHeld ?_
                try simp only [Act.put, List.setIfInBounds_toArray, List.set_cons_zero, List.set_cons_succ]
                refine wpAnyH_take (i := 10) (oi := { dst := some 101, op := Op.indexAddr 22 (Operand.tmp 99) (Operand.tmp 100), type := 0, pos := "more.go:49", after := #[{ on := 8, ground := Ground.data }, { on := 9, ground := Ground.data }, { on := 2, ground := Ground.guard }], guard := some (2, true) }) (v := undef) rfl (by kernel_rfl) (by kernel_rfl) (by kernel_rfl) (fun _ _ _ h => h) (Or.inr ⟨by rfl, rfl⟩) hHeld ?_
                try simp only [Act.put, List.setIfInBounds_toArray, List.set_cons_zero, List.set_cons_succ]
                refine wpAnyH_take (i := 11) (oi := { dst := some 102, op := Op.load 3 (Operand.tmp 101), type := 3, pos := "more.go:49", after := #[{ on := 10, ground := Ground.data }, { on := 2, ground := Ground.guard }], guard := some (2, true) }) (v := undef) rfl (by kernel_rfl) (by kernel_rfl) (by kernel_rfl) (fun _ _ _ h => h) (Or.inr ⟨by rfl, rfl⟩) hHeld ?_
                try simp only [Act.put, List.setIfInBounds_toArray, List.set_cons_zero, List.set_cons_succ]
                refine wpAnyH_take (i := 12) (oi := { dst := some 103, op := Op.binOp BinOp.geq 3 (Operand.tmp 98) (Operand.tmp 102) 3, type := 4, pos := "more.go:49", after := #[{ on := 7, ground := Ground.data }, { on := 11, ground := Ground.data }, { on := 2, ground := Ground.guard }], guard := some (2, true) }) (v := undef) rfl (by kernel_rfl) (by kernel_rfl) (by kernel_rfl) (fun _ _ _ h => h) (Or.inr ⟨by rfl, rfl⟩) hHeld ?_
                try simp only [Act.put, List.setIfInBounds_toArray, List.set_cons_zero, List.set_cons_succ]
                refine wpAnyH_take (i := 13) (oi := { dst := some 104, op := Op.pick (Operand.tmp 93) (Operand.tmp 103) (Operand.const (Value.bool false)), type := 4, pos := "more.go:49", after := #[{ on := 2, ground := Ground.data }, { on := 12, ground := Ground.data }], guard := none }) (v := ?_) rfl (by kernel_rfl) (by kernel_rfl) (by kernel_rfl) (fun _ _ _ h => h) (Or.inl ⟨by rfl, ?_⟩) hHeld ?_
                rotate_left
                · (intro w0 hS0; (try dsimp only at hS0); go_simp; try with_reducible rfl)
                try simp only [Act.put, List.setIfInBounds_toArray, List.set_cons_zero, List.set_cons_succ]
                refine wpAnyH_take (i := 14) (oi := { dst := some 105, op := Op.move (Operand.tmp 104), type := 4, pos := "more.go:49", after := #[{ on := 13, ground := Ground.data }, { on := 2, ground := Ground.chain }], guard := none }) (v := ?_) rfl (by kernel_rfl) (by kernel_rfl) (by kernel_rfl) (fun _ _ _ h => h) (Or.inl ⟨by rfl, ?_⟩) hHeld ?_
                rotate_left
                · (intro w0 hS0; (try dsimp only at hS0); go_simp; try with_reducible rfl)
                try simp only [Act.put, List.setIfInBounds_toArray, List.set_cons_zero, List.set_cons_succ]
                refine wpAnyH_take (i := 15) (oi := { dst := some 106, op := Op.move (Operand.tmp 4), type := 24, pos := "more.go:49", after := #[{ on := 14, ground := Ground.guard }], guard := some (14, false) }) (v := ?_) rfl (by kernel_rfl) (by kernel_rfl) (by kernel_rfl) (fun _ _ _ h => h) (Or.inl ⟨by rfl, ?_⟩) hHeld ?_
                rotate_left
                · (intro w0 hS0; (try dsimp only at hS0); go_simp; try with_reducible rfl)
                try simp only [Act.put, List.setIfInBounds_toArray, List.set_cons_zero, List.set_cons_succ]
                refine wpAnyH_take (i := 16) (oi := { dst := some 107, op := Op.move (Operand.tmp 11), type := 22, pos := "more.go:49", after := #[{ on := 14, ground := Ground.guard }], guard := some (14, false) }) (v := ?_) rfl (by kernel_rfl) (by kernel_rfl) (by kernel_rfl) (fun _ _ _ h => h) (Or.inl ⟨by rfl, ?_⟩) hHeld ?_
                rotate_left
                · (intro w0 hS0; (try dsimp only at hS0); go_simp; try with_reducible rfl)
                try simp only [Act.put, List.setIfInBounds_toArray, List.set_cons_zero, List.set_cons_succ]
                refine wpAnyH_take (i := 17) (oi := { dst := some 108, op := Op.move (Operand.tmp 12), type := 3, pos := "more.go:49", after := #[{ on := 14, ground := Ground.guard }], guard := some (14, false) }) (v := ?_) rfl (by kernel_rfl) (by kernel_rfl) (by kernel_rfl) (fun _ _ _ h => h) (Or.inl ⟨by rfl, ?_⟩) hHeld ?_
                rotate_left
                · (intro w0 hS0; (try dsimp only at hS0); go_simp; try with_reducible rfl)
                try simp only [Act.put, List.setIfInBounds_toArray, List.set_cons_zero, List.set_cons_succ]
                refine wpAnyH_take (i := 18) (oi := { dst := some 109, op := Op.indexAddr 22 (Operand.tmp 107) (Operand.tmp 108), type := 0, pos := "more.go:49", after := #[{ on := 16, ground := Ground.data }, { on := 17, ground := Ground.data }, { on := 14, ground := Ground.guard }], guard := some (14, false) }) (v := ?_) rfl (by kernel_rfl) (by kernel_rfl) (by kernel_rfl) (fun _ _ _ h => h) (Or.inl ⟨by rfl, ?_⟩) hHeld ?_
                rotate_left
                · (intro w0 hS0; (try dsimp only at hS0); go_simp; try with_reducible rfl)
                try simp only [Act.put, List.setIfInBounds_toArray, List.set_cons_zero, List.set_cons_succ]
                refine wpAnyH_take (i := 19) (oi := { dst := some 110, op := Op.load 3 (Operand.tmp 109), type := 3, pos := "more.go:49", after := #[{ on := 18, ground := Ground.data }, { on := 14, ground := Ground.guard }], guard := some (14, false) }) (v := ?_) rfl (by kernel_rfl) (by kernel_rfl) (by kernel_rfl) (fun _ _ _ h => h) (Or.inl ⟨by rfl, ?_⟩) hHeld ?_
                rotate_left
                · (intro w0 hS0; (try dsimp only at hS0); go_simp; try with_reducible rfl)
                try simp only [Act.put, List.setIfInBounds_toArray, List.set_cons_zero, List.set_cons_succ]
                refine wpAnyH_ready (rs := [20]) (by kernel_rfl) (by simp) (AllReadyH.cons (o := { dst := some 111, op := Op.call { callee := Callee.value (Operand.func 9), args := #[Operand.tmp 110], argTypes := #[3] }, type := 9, pos := "more.go:49", after := #[{ on := 19, ground := Ground.data }, { on := 14, ground := Ground.chain }, { on := 14, ground := Ground.guard }], guard := some (14, false) }) rfl (fun K hK => ?_) AllReadyH.nil)
                go_simp
                go_at_call 9
                refine (name_any (y : Int) _ (HJ.out.disk.mod0 HM4.out.drew).lay).mono ?_
                rw [HNM.out]
                rintro e w5 ⟨rfl, hm5⟩
                have HM5 := Lib.hid (HM4.out.drew.trans0 hm5)
                have HM25 := Lib.hid (HJ2.out.drew.trans0 hm5)
                have hc5 : w5.cell? ⟨b, o + j, none⟩ = some (.int .i64 (y : Int)) := hm5.cell hc (fun h => h)
                clear hm5
                refine hK.out _ _ (hc5) (fun hHeld2 => ?_)
                clear hK K hHeld
                rename _ => hHeld
                try simp only [Act.put, List.setIfInBounds_toArray, List.set_cons_zero, List.set_cons_succ]
                refine wpAnyH_ready (rs := [21]) (by kernel_rfl) (by simp) (AllReadyH.cons (o := { dst := some 112, op := Op.call { callee := Callee.value (Operand.func 8), args := #[Operand.tmp 106, Operand.tmp 111], argTypes := #[24, 9] }, type := 4, pos := "more.go:49", after := #[{ on := 15, ground := Ground.data }, { on := 20, ground := Ground.data }, { on := 20, ground := Ground.chain }, { on := 14, ground := Ground.guard }], guard := some (14, false) }) rfl (fun K hK => ?_) AllReadyH.nil)
                go_simp
                go_at_call 8
                refine (has_any nm F' d D' _ (HJ.out.disk.mod0 HM5.out)).mono ?_
                rw [HH.out]
                rintro e w6 ⟨rfl, hm6⟩
                have HM26 := Lib.hid (HM25.out.trans0 hm6)
                have hc6 : w6.cell? ⟨b, o + j, none⟩ = some (.int .i64 (y : Int)) := hm6.cell hc5 (fun h => h)
                clear hm6
                refine hK.out _ _ (hc6) (fun hHeld2 => ?_)
                clear hK K hHeld
                rename _ => hHeld
                try simp only [Act.put, List.setIfInBounds_toArray, List.set_cons_zero, List.set_cons_succ]
                refine wpAnyH_take (i := 22) (oi := { dst := some 113, op := Op.unOp UnOp.not 4 (Operand.tmp 112), type := 4, pos := "more.go:49", after := #[{ on := 21, ground := Ground.data }, { on := 14, ground := Ground.guard }], guard := some (14, false) }) (v := ?_) rfl (by kernel_rfl) (by kernel_rfl) (by kernel_rfl) (fun _ _ _ h => h) (Or.inl ⟨by rfl, ?_⟩) hHeld ?_
                rotate_left
                · (intro w0 hS0; (try dsimp only at hS0); go_simp; try with_reducible rfl)
                try simp only [Act.put, List.setIfInBounds_toArray, List.set_cons_zero, List.set_cons_succ]
                refine wpAnyH_take (i := 23) (oi := { dst := some 114, op := Op.pick (Operand.tmp 105) (Operand.const (Value.bool true)) (Operand.tmp 113), type := 4, pos := "more.go:49", after := #[{ on := 14, ground := Ground.data }, { on := 22, ground := Ground.data }], guard := none }) (v := ?_) rfl (by kernel_rfl) (by kernel_rfl) (by kernel_rfl) (fun _ _ _ h => h) (Or.inl ⟨by rfl, ?_⟩) hHeld ?_
                rotate_left
                · (intro w0 hS0; (try dsimp only at hS0); go_simp; try with_reducible rfl)
                try simp only [Act.put, List.setIfInBounds_toArray, List.set_cons_zero, List.set_cons_succ]
                refine wpAnyH_done (by kernel_rfl) ?_ _
                go_wp2_with fail
                go_roundw
                case rel => exact ⟨j + 1, by omega, by go_num, HM26.out⟩
                case measure => simp [intOf]; omega
              · obtain ⟨b', o', hbb, u', hu', hcp⟩ := (HRS.out.mod0 HJ2.out).at_ (show j - 1 < ns by omega)
                cases hbb
                rw [List.getElem?_map, List.getElem?_map] at hu'
                cases hq' : us[j - 1]? with
                | none => rw [hq'] at hu'; cases hu'
                | some z =>
                  rw [hq'] at hu'
                  simp only [Option.map_some, Option.some.injEq] at hu'
                  subst hu'
                  simp only [i64c] at hcp
                  have hzy := HK2.out (j - 1) z y hq' (by rw [show j - 1 + 1 = j by omega]; exact hq)
                  have hjd : decide (0 < j) = true := decide_eq_true hj0
                  have hcmp : decide (y ≤ z) = false := decide_eq_false (by omega)
                  have i0 : (0 : Int) ≤ (j : Int) - 1 := by omega
                  have i1 : (j : Int) - 1 < (ns : Int) := by omega
                  have i2 : 1 ≤ j := hj0
                  have i3 : j < ns + 1 := by omega
                  have i4 : (1 : Int) ≤ (j : Int) := by omega
                  have i5 : (j : Int) ≤ (ns : Int) := by omega
                  have i6 : j - 1 < ns := by omega
                  have hwr : IntKind.i64.wrap ((j : Int) - 1) = (j : Int) - 1 := IntWalk.i64_in _ (by omega)
                  have htn : ((j : Int) - 1).toNat = j - 1 := by omega
                  clear hq hq' hzy
                  go_wp2_with fail
                  first
                  | (go_region_held3 (fun w' => w'.cell? ⟨b, o + j, none⟩ = some (.int .i64 (y : Int)) ∧ w'.cell? ⟨b, o + (j - 1), none⟩ = some (.int .i64 (z : Int)))
                    (first | exact ⟨hc, hcp⟩ | exact ⟨hc5, hcp5⟩ | exact ⟨hc6, hcp6⟩)
                    (first
                      | (go_at_call 9
                         refine (name_any (y : Int) _ (HJ.out.disk.mod0 HM4.out.drew).lay).mono ?_
                         rw [HNM.out]
                         rintro e w5 ⟨rfl, hm5⟩
                         have HM5 := Lib.hid (HM4.out.drew.trans0 hm5)
                         have hc5 : w5.cell? ⟨b, o + j, none⟩ = some (.int .i64 (y : Int)) := hm5.cell hc (fun h => h)
                         have hcp5 : w5.cell? ⟨b, o + (j - 1), none⟩ = some (.int .i64 (z : Int)) := hm5.cell hcp (fun h => h)
                         have HM25 := Lib.hid (HJ2.out.drew.trans0 hm5)
                         clear hm5)
                      | (go_at_call 8
                         refine (has_any nm F' d D' _ (HJ.out.disk.mod0 HM5.out)).mono ?_
                         rw [HH.out]
                         rintro e w6 ⟨rfl, hm6⟩
                         have HM26 := Lib.hid (HM25.out.trans0 hm6)
                         have hc6 : w6.cell? ⟨b, o + j, none⟩ = some (.int .i64 (y : Int)) := hm6.cell hc5 (fun h => h)
                         have hcp6 : w6.cell? ⟨b, o + (j - 1), none⟩ = some (.int .i64 (z : Int)) := hm6.cell hcp5 (fun h => h)
                         clear hm6)))
                  clear hwr htn
                  go_wp2_with fail
                  go_roundw
                  case rel => exact ⟨j + 1, by omega, by go_num, HM26.out⟩
                  case measure => simp [intOf]; omega
          · obtain rfl : j = ns := by omega
            have hdone : ((j : Int) == (cnt : Int)) = true := by rw [hnc.out]; simp
            have HMF := Lib.hid ((HJ.out.mod.trans0 HM3.out).trans0 HJ2.out)
            go_wp2_with fail
            go_ret
            exact ⟨rfl, HMF.out⟩

end Go.Proofs.YtgdamcimpgapgaaGreatDoor
