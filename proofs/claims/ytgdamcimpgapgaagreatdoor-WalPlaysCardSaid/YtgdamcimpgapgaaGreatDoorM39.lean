/- sawyerref05.Segments over whatever names. -/
import Derived.Test.YtgdamcimpgapgaaGreatDoorM38
import Derived.Test.YtgdamcimpgapgaaGreatDoorM32
import Derived.Test.YtgdamcimpgapgaaGreatDoorM28
import Derived.Deep.RegionHeld3
namespace Go.Proofs.YtgdamcimpgapgaaGreatDoor
open Go.RowKit

theorem numR_step {nm : ByteArray} {k : Nat} (h17 : nm.size = 17) (h4 : 4 ≤ k) (h : k < nm.size) :
    numR ((nm.data.toList.drop 4).take (k + 1 - 4)) 0 = numR ((nm.data.toList.drop 4).take (k - 4)) 0 * 10 + (nm[k].toNat : Int) - 48 := by
  have e : k + 1 - 4 = (k - 4) + 1 := by omega
  rw [e, take_snoc' (nm.data.toList.drop 4) (k - 4) nm[k] (by
    rw [List.getElem?_drop, show 4 + (k - 4) = k by omega]
    have h2 : k < nm.data.toList.length := by rw [size_dat]; exact h
    rw [List.getElem?_eq_getElem h2]
    rfl), numR_snoc]

set_option maxRecDepth 100000 in
set_option maxHeartbeats 2000000 in
theorem segsR_any (E : Nat → Prop) (r : Nat) (D : Dk) (w : World) (h : RkIs w E r D) (hl : D.files.length ≤ 100000000000) :
    Calls Tryz.prog 19 #[.pointer (some ⟨r, 0, none⟩)] w fun e w' => ∃ A n c L, e = .returned (.slice A n c) ∧ SortedOf D.files L ∧ Rd w' A n (((L.map (·.name)).filterMap segR).map i64c) ∧ n ≤ c ∧ c ≤ 9223372036854775807 ∧ Mod Non w w' := by
  have HH := Lib.hid h
  clear h
  go_enter Tryz.func19, Tryz.ntmps19
  go_wp2_with (go_at_call 54; refine (namesR_any E r D _ HH.out hl).mono ?_; rintro e w1 ⟨An, nn, cn, L0, rfl, hL, hr1, hnn, hcn, hbn, hb1⟩)
  obtain ⟨L, hLe⟩ : ∃ L, L0.map (·.name) = L := ⟨_, rfl⟩
  rw [hLe] at hr1
  have hnl : L.length = nn := by have := hr1.1; simpa [strs] using this
  have hnn2 : nn ≤ 100000000000 := by
    have h1 := hL.perm.length_eq
    have h2 := congrArg List.length hLe
    simp only [List.length_map] at h2
    omega
  have HNL := Lib.hid hnl
  have HL := Lib.hid hL
  have HLE := Lib.hid hLe
  have HM1 := Lib.hid hb1
  have HR1 := Lib.hid hr1
  have hs1 := hb1.size
  clear hnl hL hLe hr1 hb1
  go_loopw [3, 5] (fun v i wr => ∃ (j k : Nat) (ys : List Int) (cv : Nat) (Av : Option Addr), j ≤ nn ∧ k ≤ j ∧ i = .int .i64 j ∧ v = .slice Av k cv ∧ wr.ownsRow w1.heap.size 3 1 (.slice Av k cv) k (ys.map i64c) ∧ Hid (SgM w1 L j ys wr)) (fun _ i _ => nn - (intOf i).toNat)
  case atStart => exact ⟨0, 0, [], 0, none, Nat.zero_le _, Nat.le_refl _, rfl, rfl, World.ownsRow_nil _ _ _ _, Mod.refl _ _, rfl⟩
  case round =>
    obtain ⟨j, k, ys, cv, Av, hj, hk, rfl, rfl, hown, HIR⟩ := hrel
    have HMR := Lib.hid HIR.out.mod
    have HYS := Lib.hid HIR.out.eq
    clear HIR
    by_cases hlt : j < nn
    · obtain ⟨b, o, rfl, u, hu, hc⟩ := (HR1.out.mod0 HMR.out).at_ hlt
      unfold strs at hu
      rw [List.getElem?_map] at hu
      cases hx : L[j]? with
      | none => rw [hx] at hu; cases hu
      | some nm =>
        rw [hx] at hu
        simp only [Option.map_some, Option.some.injEq] at hu
        subst hu
        have HX := Lib.hid hx
        have HOWN := Lib.hid hown
        have hrow := hown.lt
        have hszr := HMR.out.size
        have i1 : (0 : Int) ≤ (j : Int) := by omega
        have i2 : (j : Int) < (nn : Int) := by omega
        have HC := Lib.hid hc
        clear hx hown
        by_cases h17 : nm.size = 17
        · have hz : ((nm.size : Int) != 17) = false := by simp [h17]
          have hsz : nm.size ≤ 17 := by omega
          have hsz2 : 17 ≤ nm.size := by omega
          have H17 := Lib.hid h17
          clear h17
          go_wp2_with fail
          clear hz
          go_loop [6, 7] (fun x i => ∃ (q : Nat) (z : Int), 4 ≤ q ∧ q ≤ 17 ∧ i = .int .i64 q ∧ x = .int .i64 z ∧ Hid (z = numR ((nm.data.toList.drop 4).take (q - 4)) 0)) (fun _ i => 17 - (intOf i).toNat)
          case atStart => exact ⟨4, 0, by omega, by omega, rfl, rfl, by show _ = _; simp [numR]⟩
          case round =>
            obtain ⟨q, z, hq4, hq17, rfl, rfl, HZ⟩ := hrel
            have hzb : -230000000000000 ≤ z ∧ z ≤ 230000000000000 := by
              rw [HZ.out]
              exact numR_le _ (by rw [List.length_take]; omega)
            obtain ⟨hz0, hz1⟩ := hzb
            by_cases hq : q < 17
            · have hqs : q < nm.size := by omega
              have HST := Lib.hid (numR_step H17.out hq4 hqs)
              have hcb : nm[q].toNat < 256 := nm[q].toNat_lt
              have hq0 : (0 : Int) ≤ (q : Int) := by omega
              have hq1 : (q : Int) < (nm.size : Int) := by omega
              have hqi : (q : Int) < 17 := by omega
              go_wp2_with fail
              go_round
              case rel => exact ⟨q + 1, z * 10 + (nm[q].toNat : Int) - 48, by omega, by omega, by go_num, rfl, by show _ = _; rw [HST.out, HZ.out]⟩
              case measure => simp [intOf]; omega
            · obtain rfl : q = 17 := by omega
              have hzE : z = numR (nm.data.toList.drop 4) 0 := by
                rw [HZ.out, List.take_of_length_le (by rw [List.length_drop, size_dat]; omega)]
              clear HZ
              obtain ⟨nv, hnv⟩ : ∃ nv, nameW z = nv := ⟨_, rfl⟩
              have HNV := Lib.hid hnv
              have HZE := Lib.hid hzE
              by_cases hv : nv = nm
              · have HSG : Hid (segR nm = some z) := by
                  show _ = _
                  unfold segR
                  rw [if_pos H17.out, ← hzE, hnv, if_pos hv]
                have hq : (nv.toList == nm.toList) = true := by rw [hv]; simp
                have HV := Lib.hid hv
                clear hv hnv hzE
                go_wp2_with fail
                go_region_held3 (fun w' => w'.cell? ⟨b, o + j, none⟩ = some (.string nm))
                  (first | assumption | exact HC.out | go_keep)
                  (first
                    | (go_at_call 18
                       refine (nameR_any z _).mono ?_
                       rw [HNV.out]
                       rintro e w5 ⟨rfl, hm5⟩
                       have HM5 := Lib.hid (((Mod.refl Non wr).drew).trans0 hm5)
                       have hc5 : w5.cell? ⟨b, o + j, none⟩ = some (.string nm) := HM5.out.cell HC.out (fun h => h)
                       clear hm5))
                all_goals
                  have hown5 := own_mod (S := Non) HOWN.out HM5.out (fun _ _ h => h)
                  have HONE := Lib.hid (one_int w5 3 z)
                  have hsz5 := HM5.out.size
                  go_wp2_with (at_builtin
                               refine wpList_appI Tryz.underlying22 rowI _ rfl (.tmp 44) (.tmp 46) rfl w1.heap.size (.slice Av k cv) k ys rfl (hown5.alloc _) _ 1 1 [z] rfl HONE.out (by omega) (by simp; omega) ?_
                               intro A' c' w' hc' hcm' hown' hg' hat')
                  have hmg : Mod (fun g => (Value.slice Av k cv).ownBlock = some g) (w5.alloc (.cells #[.int .i64 z] 3)) w' := Mod.of_grown hg' fun _ h => h
                  go_roundw
                  case rel =>
                    refine ⟨j + 1, k + 1, ys ++ [z], c', A', by omega, by omega, by go_num, rfl, ?_, ?_, ?_⟩
                    · rw [List.map_append] at hown'
                      rw [List.map_append]
                      exact hown'
                    · exact ((HMR.out.trans0 HM5.out).alloc _).trans hmg fun g hg => .inr (hrow g hg).1
                    · show _ = _
                      rw [segs_snoc HX.out, HSG.out, HYS.out]
                      rfl
                  case measure => simp [intOf]; omega
              · have HSG : Hid (segR nm = none) := by
                  show _ = _
                  unfold segR
                  rw [if_pos H17.out, ← hzE, hnv, if_neg hv]
                have hq : (nv.toList == nm.toList) = false := beq_eq_false_iff_ne.2 fun e => hv (keyF_inj (by rwa [ByteArray.toList_eq, ByteArray.toList_eq] at e))
                have HV := Lib.hid hv
                clear hv hnv hzE
                go_wp2_with fail
                go_region_held3 (fun w' => w'.cell? ⟨b, o + j, none⟩ = some (.string nm))
                  (first | assumption | exact HC.out | go_keep)
                  (first
                    | (go_at_call 18
                       refine (nameR_any z _).mono ?_
                       rw [HNV.out]
                       rintro e w5 ⟨rfl, hm5⟩
                       have HM5 := Lib.hid (((Mod.refl Non wr).drew).trans0 hm5)
                       have hc5 : w5.cell? ⟨b, o + j, none⟩ = some (.string nm) := HM5.out.cell HC.out (fun h => h)
                       clear hm5))
                all_goals
                  go_wp2_with fail
                  go_roundw
                  case rel =>
                    refine ⟨j + 1, k, ys, cv, Av, by omega, by omega, by go_num, rfl, own_mod (S := Non) HOWN.out HM5.out (fun _ _ h => h), HMR.out.trans0 HM5.out, ?_⟩
                    show _ = _
                    rw [segs_snoc HX.out, HSG.out, HYS.out]
                    simp
                  case measure => simp [intOf]; omega
        · have hz : ((nm.size : Int) != 17) = true := by
            rw [bne_iff_ne]; omega
          have HSG : Hid (segR nm = none) := by
            show _ = _
            unfold segR
            rw [if_neg h17]
          clear h17
          go_wp2_with fail
          go_roundw
          case rel =>
            refine ⟨j + 1, k, ys, cv, Av, by omega, by omega, by go_num, rfl, HOWN.out, HMR.out, ?_⟩
            show _ = _
            rw [segs_snoc HX.out, HSG.out, HYS.out]
            simp
          case measure => simp [intOf]; omega
    · obtain rfl : j = nn := by omega
      go_wp2_with fail
      go_ret
      have hr := Rd.of_own hown
      rw [HYS.out, List.take_of_length_le (by rw [HNL.out]; omega), ← HLE.out] at hr
      exact ⟨Av, k, cv, L0, rfl, HL.out, hr, (own_slice hown).elim fun _ h => by obtain ⟨_, h, h1, h2⟩ := h; cases h; exact h1, (own_slice hown).elim fun _ h => by obtain ⟨_, h, h1, h2⟩ := h; cases h; have : maxLen = 9223372036854775807 := rfl; omega, HM1.out.trans0 HMR.out⟩

end Go.Proofs.YtgdamcimpgapgaaGreatDoor
