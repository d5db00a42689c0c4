/- sawyerlaw18.RowsCodes. -/
import Derived.Test.YtgnpmmhpeianpaaGreatDoorB44
import Derived.Test.YtgnpmmhpeianpaaGreatDoorB23
import Derived.Test.YtgnpmmhpeianpaaGreatDoorB45
import Derived.Test.YtgnpmmhpeianpaaGreatDoorB39
import Derived.Test.YtgnpmmhpeianpaaGreatDoorB14
import Derived.Test.YtgnpmmhpeianpaaGreatDoorB40
import Derived.Test.YtgnpmmhpeianpaaGreatDoorB46
namespace Go.Proofs.YtgnpmmhpeianpaaGreatDoor
open Go.RowKit

set_option maxRecDepth 100000 in
set_option maxHeartbeats 4000000 in
theorem rowsCodes_walk (id st q : Int) (nm ky : ByteArray) (sz : Int) (root : ByteArray) (tk ep : Int) (A : Option Addr) (n c : Nat) (nodes : List ByteArray) (sig : ByteArray) (B : Option Addr) (m d : Nat) (l : List UInt8) (w : World) (hL : Lay w)
    (hk : ky.size ≤ 140737488351232) (hr : root.size ≤ 140737488351232) (hn : Rd w A n (nodes.map Value.string)) (hn2 : n ≤ 9223372036854775807) (hb : Rd w B m (by8 l)) (hmd : m ≤ d) (hm : m ≤ 140737488351232) (hd : d ≤ 9223372036854775807) :
    Calls Tryz.prog 3 #[.agg (tCells id st q nm ky), .agg (hCells sz root tk ep A n c sig), .slice B m d] w fun r w' => r = .returned (.bool true) ∧ Mod Non w w' := by
  obtain ⟨L1, E1, het⟩ := et_form id st q nm ky
  obtain ⟨L2, E2, heh⟩ := eh_form sz root tk ep nodes sig
  obtain ⟨a1, a2, a3, dn, dk, E3, hdt⟩ := dt_form l
  obtain ⟨hs, hroot, htk, hep, hnodes, hsig, E4, hdh⟩ := dh_form l
  obtain ⟨SV, hSV⟩ : ∃ S : ByteArray, (⟨(signP id ky sz root tk ep).toArray⟩ : ByteArray) = S := ⟨_, rfl⟩
  obtain ⟨w0, hw0⟩ : ∃ w0, w0 = (w.alloc (.cells (tCells id st q nm ky) 23)).alloc (.cells (hCells sz root tk ep A n c sig) 26) := ⟨_, rfl⟩
  have hb0 : Blk w0 w.heap.size 23 (tCells id st q nm ky) := by rw [hw0]; exact (Blk.new _ _ _).alloc _
  have hb1 : Blk w0 (w.heap.size + 1) 26 (hCells sz root tk ep A n c sig) := by
    have h9 := Blk.new (w.alloc (.cells (tCells id st q nm ky) 23)) 26 (hCells sz root tk ep A n c sig)
    rw [World.size_alloc] at h9
    rw [hw0]
    exact h9
  have hm0 : Mod Non w w0 := by rw [hw0]; exact ((Mod.refl Non w).alloc _).alloc _
  have HM0 := Lib.hid hm0
  have HL := Lib.hid hL
  have HNR := Lib.hid (hn.mod0 hm0)
  have HBR := Lib.hid (hb.mod0 hm0)
  have HSV := Lib.hid hSV
  have HET := Lib.hid het
  have HEH := Lib.hid heh
  have HDT := Lib.hid hdt
  have HDH := Lib.hid hdh
  have HK := Lib.hid (And.intro hk hr)
  have HTR : Hid (∀ W, Calls Tryz.prog 6 #[.agg (tCells id st q nm ky)] W fun e w' => e = .returned (.agg (tCells id st q nm ky)) ∧ Mod Non W w') := fun W => tree_any id st q nm ky W
  have HHD : Hid (∀ W, Calls Tryz.prog 10 #[.agg (hCells sz root tk ep A n c sig)] W fun e w' => e = .returned (.agg (hCells sz root tk ep A n c sig)) ∧ Mod Non W w') := fun W => head_any sz root tk ep A n c sig W
  have HSG : Hid (∀ W, Calls Tryz.prog 9 #[.agg (tCells id st q nm ky), .agg (hCells sz root tk ep A n c sig)] W fun e w' => e = .returned (.string SV) ∧ Mod Non W w') := fun W => by
    have := sign_any id st q nm ky sz root tk ep A n c sig W HK.out.1 HK.out.2
    rw [HSV.out] at this
    exact this
  have HSQ : Hid (∀ W, Calls Tryz.prog 11 #[.agg (tCells id st q nm ky), .agg (hCells sz root tk ep A n c sig)] W fun e w' => e = .returned (.string SV) ∧ Mod Non W w') := fun W => by
    have := signQ_any id st q nm ky sz root tk ep A n c sig W HK.out.1 HK.out.2
    rw [HSV.out] at this
    exact this
  have HE1 : Hid (∀ W, Calls Tryz.prog 5 #[.agg (tCells id st q nm ky)] W fun e w' => ∃ A' n' c', e = .returned (.tuple #[.slice A' n' c', .int .i64 E1]) ∧ Rd w' A' n' (by8 L1) ∧ Mod Non W w') := fun W => (encTree_any id st q nm ky W).mono fun e w' h => HET.out W e w' h
  have HE2 : Hid (∀ W, Calls Tryz.prog 7 #[.agg (tCells id st q nm ky)] W fun e w' => ∃ A' n' c', e = .returned (.tuple #[.slice A' n' c', .int .i64 E1]) ∧ Rd w' A' n' (by8 L1) ∧ Mod Non W w') := fun W => (encTreeQ_any id st q nm ky W).mono fun e w' h => HET.out W e w' h
  have HE3 : Hid (∀ W, Mod Non w0 W → Calls Tryz.prog 12 #[.agg (hCells sz root tk ep A n c sig)] W fun e w' => ∃ A' n' c', e = .returned (.tuple #[.slice A' n' c', .int .i64 E2]) ∧ Rd w' A' n' (by8 L2) ∧ Mod Non W w') := fun W hW => (encHead_any sz root tk ep A n c nodes sig W (HNR.out.mod0 hW) hn2).mono fun e w' h => HEH.out W e w' h
  have HE4 : Hid (∀ W, Mod Non w0 W → Calls Tryz.prog 13 #[.agg (hCells sz root tk ep A n c sig)] W fun e w' => ∃ A' n' c', e = .returned (.tuple #[.slice A' n' c', .int .i64 E2]) ∧ Rd w' A' n' (by8 L2) ∧ Mod Non W w') := fun W hW => (encHeadQ_any sz root tk ep A n c nodes sig W (HNR.out.mod0 hW) hn2).mono fun e w' h => HEH.out W e w' h
  have HD1 : Hid (∀ W, Mod Non w0 W → Calls Tryz.prog 14 #[.slice B m d] W fun e w' => e = .returned (.tuple #[.agg (tCells a1 a2 a3 dn dk), .int .i64 E3]) ∧ Mod Non W w') := fun W hW => (decTree_any B m d l W (HBR.out.mod0 hW) hmd hm hd).mono fun e w' h => HDT.out W e w' h
  have HD2 : Hid (∀ W, Mod Non w0 W → Calls Tryz.prog 15 #[.slice B m d] W fun e w' => e = .returned (.tuple #[.agg (tCells a1 a2 a3 dn dk), .int .i64 E3]) ∧ Mod Non W w') := fun W hW => (decTreeQ_any B m d l W (HBR.out.mod0 hW) hmd hm hd).mono fun e w' h => HDT.out W e w' h
  have HD3 : Hid (∀ W, Mod Non w0 W → Calls Tryz.prog 16 #[.slice B m d] W fun e w' => ∃ A' n' c', e = .returned (.tuple #[.agg (hCells hs hroot htk hep A' n' c' hsig), .int .i64 E4]) ∧ n' ≤ 9223372036854775807 ∧ Rd w' A' n' (hnodes.map Value.string) ∧ Mod Non W w') := fun W hW => (decHead_any B m d l W (HBR.out.mod0 hW) hmd hm hd).mono fun e w' h => HDH.out W e w' h
  have HD4 : Hid (∀ W, Mod Non w0 W → Calls Tryz.prog 17 #[.slice B m d] W fun e w' => ∃ A' n' c', e = .returned (.tuple #[.agg (hCells hs hroot htk hep A' n' c' hsig), .int .i64 E4]) ∧ n' ≤ 9223372036854775807 ∧ Rd w' A' n' (hnodes.map Value.string) ∧ Mod Non W w') := fun W hW => (decHeadQ_any B m d l W (HBR.out.mod0 hW) hmd hm hd).mono fun e w' h => HDH.out W e w' h
  have HTT : Hid (∀ W, Calls Tryz.prog 18 #[.agg (tCells a1 a2 a3 dn dk)] W fun e w' => e = .returned (.agg (tCells a1 a2 a3 dn dk)) ∧ Mod Non W w') := fun W => theirTree_any a1 a2 a3 dn dk W
  unfold tCells at hb0 hw0
  unfold hCells at hb1 hw0
  have HCT : Hid (∀ W, Mod Non w0 W → W.cell? ⟨w.heap.size, 0, none⟩ = some (.int .i64 id) ∧ W.cell? ⟨w.heap.size, 1, none⟩ = some (.int .i64 st) ∧ W.cell? ⟨w.heap.size, 2, none⟩ = some (.int .i64 q) ∧ W.cell? ⟨w.heap.size, 3, none⟩ = some (.string nm) ∧ W.cell? ⟨w.heap.size, 4, none⟩ = some (.string ky)) := fun W hW =>
    ⟨(hb0.mod hW fun h => h).cell 0, (hb0.mod hW fun h => h).cell 1, (hb0.mod hW fun h => h).cell 2, (hb0.mod hW fun h => h).cell 3, (hb0.mod hW fun h => h).cell 4⟩
  have HCH : Hid (∀ W, Mod Non w0 W → W.cell? ⟨w.heap.size + 1, 0, none⟩ = some (.int .i64 sz) ∧ W.cell? ⟨w.heap.size + 1, 1, none⟩ = some (.string root) ∧ W.cell? ⟨w.heap.size + 1, 2, none⟩ = some (.int .i64 tk) ∧ W.cell? ⟨w.heap.size + 1, 3, none⟩ = some (.int .i64 ep) ∧ W.cell? ⟨w.heap.size + 1, 4, none⟩ = some (.slice A n c) ∧ W.cell? ⟨w.heap.size + 1, 5, none⟩ = some (.string sig)) := fun W hW =>
    ⟨(hb1.mod hW fun h => h).cell 0, (hb1.mod hW fun h => h).cell 1, (hb1.mod hW fun h => h).cell 2, (hb1.mod hW fun h => h).cell 3, (hb1.mod hW fun h => h).cell 4, (hb1.mod hW fun h => h).cell 5⟩
  have HW0 := Lib.hid hw0
  have HLA := Lib.hid (HL.out.mod0 HM0.out)
  unfold tCells hCells at *
  clear hb0 hb1 hw0 hm0 hn hb hSV het heh hdt hdh hk hr hL
  go_enter Tryz.func3, Tryz.ntmps3
  go_wp2_with fail
  rw [← HW0.out]
  refine (awake18 w0 HLA.out).mono ?_
  rintro r w1 ⟨rfl, hm1⟩
  obtain ⟨t0, t1, t2, t3, t4⟩ := HCT.out w1 hm1
  have HM1 := Lib.hid hm1
  clear hm1
  go_wp2_with fail
  refine (HTR.out w1).mono ?_
  rintro r w2 ⟨rfl, hm2⟩
  have HM2 := Lib.hid (HM1.out.trans0 hm2)
  clear hm2 t0 t1 t2 t3 t4
  go_wp2_with fail
  refine (HE1.out w2).mono ?_
  rintro r w3 ⟨A3, n3, c3, rfl, hr3, hm3⟩
  have HM3 := Lib.hid (HM2.out.trans0 hm3)
  have HR3 := Lib.hid hr3
  obtain ⟨t0, t1, t2, t3, t4⟩ := HCT.out w3 HM3.out
  clear hm3 hr3
  go_wp2_with fail
  refine (HE2.out w3).mono ?_
  rintro r w4 ⟨A4, n4, c4, rfl, hr4, hm4⟩
  have HM4 := Lib.hid (HM3.out.trans0 hm4)
  have HR4 := Lib.hid hr4
  have HR3' := Lib.hid (HR3.out.mod0 hm4)
  clear hm4 hr4 t0 t1 t2 t3 t4
  go_wp2_with fail
  have hd4 : Mod Non w4 { w4 with drawn := w4.drawn + 1 } := (Mod.refl _ _).drew
  have dt0 : ∀ x : WorldOf (Mod Non w4), x.W.cell? ⟨w.heap.size, 0, none⟩ = some (.int .i64 id) := fun x => (HCT.out x.W (HM4.out.trans0 x.ok)).1
  have dt1 : ∀ x : WorldOf (Mod Non w4), x.W.cell? ⟨w.heap.size, 1, none⟩ = some (.int .i64 st) := fun x => (HCT.out x.W (HM4.out.trans0 x.ok)).2.1
  have dt2 : ∀ x : WorldOf (Mod Non w4), x.W.cell? ⟨w.heap.size, 2, none⟩ = some (.int .i64 q) := fun x => (HCT.out x.W (HM4.out.trans0 x.ok)).2.2.1
  have dt3 : ∀ x : WorldOf (Mod Non w4), x.W.cell? ⟨w.heap.size, 3, none⟩ = some (.string nm) := fun x => (HCT.out x.W (HM4.out.trans0 x.ok)).2.2.2.1
  have dt4 : ∀ x : WorldOf (Mod Non w4), x.W.cell? ⟨w.heap.size, 4, none⟩ = some (.string ky) := fun x => (HCT.out x.W (HM4.out.trans0 x.ok)).2.2.2.2
  have dh0 : ∀ x : WorldOf (Mod Non w4), x.W.cell? ⟨w.heap.size + 1, 0, none⟩ = some (.int .i64 sz) := fun x => (HCH.out x.W (HM4.out.trans0 x.ok)).1
  have dh1 : ∀ x : WorldOf (Mod Non w4), x.W.cell? ⟨w.heap.size + 1, 1, none⟩ = some (.string root) := fun x => (HCH.out x.W (HM4.out.trans0 x.ok)).2.1
  have dh2 : ∀ x : WorldOf (Mod Non w4), x.W.cell? ⟨w.heap.size + 1, 2, none⟩ = some (.int .i64 tk) := fun x => (HCH.out x.W (HM4.out.trans0 x.ok)).2.2.1
  have dh3 : ∀ x : WorldOf (Mod Non w4), x.W.cell? ⟨w.heap.size + 1, 3, none⟩ = some (.int .i64 ep) := fun x => (HCH.out x.W (HM4.out.trans0 x.ok)).2.2.2.1
  have dh4 : ∀ x : WorldOf (Mod Non w4), x.W.cell? ⟨w.heap.size + 1, 4, none⟩ = some (.slice A n c) := fun x => (HCH.out x.W (HM4.out.trans0 x.ok)).2.2.2.2.1
  have dh5 : ∀ x : WorldOf (Mod Non w4), x.W.cell? ⟨w.heap.size + 1, 5, none⟩ = some (.string sig) := fun x => (HCH.out x.W (HM4.out.trans0 x.ok)).2.2.2.2.2
  have hne : Nonempty (WorldOf (Mod Non w4)) := ⟨⟨w4, Mod.refl _ _⟩⟩
  have HSM : Hid (∀ W, Mod Non w4 W → Calls Tryz.prog 8 #[.slice A3 n3 c3, .slice A4 n4 c4] W fun e w' => e = .returned (.bool true) ∧ Mod Non W w') := fun W hW => (sameQ_any A3 A4 n3 c3 n4 c4 L1 L1 W (HR3'.out.mod0 hW) (HR4.out.mod0 hW)).mono fun e w' h => ⟨by rw [h.1]; simp, by rw [h.2]; exact Mod.refl _ _⟩
  refine wp_region_class (S := Mod Non w4) (by kernel_rfl) (by kernel_rfl) hd4 ?_
  repeat (go_big_quiet_step ((first
    | (go_at_call 8; exact Calls.quiet_class (HSM.out _ (WorldOf.ok _)))
    | (go_at_call 6; exact Calls.quiet_class (HTR.out _))
    | (go_at_call 10; exact Calls.quiet_class (HHD.out _))
    | (go_at_call 9; exact Calls.quiet_class (HSG.out _))
    | (go_at_call 11; exact Calls.quiet_class (HSQ.out _)))))
  refine wpQuiet_nil ?_
  rintro ⟨w5, hm5⟩
  dsimp only
  have HM5 := Lib.hid (HM4.out.trans0 hm5)
  obtain ⟨k0, k1, k2, k3, k4, k5⟩ := HCH.out w5 HM5.out
  clear hm5 hd4 hne dt0 dt1 dt2 dt3 dt4 dh0 dh1 dh2 dh3 dh4 dh5
  go_wp2_with fail
  refine (HHD.out w5).mono ?_
  rintro r w6 ⟨rfl, hm6⟩
  have HM6 := Lib.hid (HM5.out.trans0 hm6)
  clear hm6 k0 k1 k2 k3 k4 k5
  go_wp2_with fail
  refine (HE3.out w6 HM6.out).mono ?_
  rintro r w7 ⟨A7, n7, c7, rfl, hr7, hm7⟩
  have HM7 := Lib.hid (HM6.out.trans0 hm7)
  have HR7 := Lib.hid hr7
  obtain ⟨k0, k1, k2, k3, k4, k5⟩ := HCH.out w7 HM7.out
  clear hm7 hr7
  go_wp2_with fail
  refine (HE4.out w7 HM7.out).mono ?_
  rintro r w8 ⟨A8, n8, c8, rfl, hr8, hm8⟩
  have HM8 := Lib.hid (HM7.out.trans0 hm8)
  have HR8 := Lib.hid hr8
  have HR7' := Lib.hid (HR7.out.mod0 hm8)
  clear hm8 hr8 k0 k1 k2 k3 k4 k5
  go_wp2_with fail
  refine (sameQ_any A7 A8 n7 c7 n8 c8 L2 L2 w8 HR7'.out HR8.out).mono ?_
  rintro r w9 ⟨rfl, rfl⟩
  have htr : decide (L2 = L2) = true := decide_eq_true rfl
  rw [htr]
  clear htr
  go_wp2_with fail
  refine (HD1.out w9 HM8.out).mono ?_
  rintro r w10 ⟨rfl, hm10⟩
  have HM10 := Lib.hid (HM8.out.trans0 hm10)
  clear hm10
  go_wp2_with fail
  obtain ⟨wa, hwa⟩ : ∃ W, W = w10.alloc (.cells #[.int .i64 a1, .int .i64 a2, .int .i64 a3, .string dn, .string dk] 32) := ⟨_, rfl⟩
  have HBwa : Hid (Blk wa w10.heap.size 32 #[.int .i64 a1, .int .i64 a2, .int .i64 a3, .string dn, .string dk]) := by rw [hwa]; exact Blk.new _ _ _
  have HMowa : Hid (Mod Non w10 wa) := by rw [hwa]; exact (Mod.refl _ _).alloc _
  have HMa := Lib.hid (HM10.out.trans0 HMowa.out)
  rw [← hwa]
  clear hwa
  refine (HD2.out wa HMa.out).mono ?_
  rintro r w11 ⟨rfl, hm11⟩
  have HM11 := Lib.hid (HMa.out.trans0 hm11)
  have HBa := Lib.hid (HBwa.out.mod hm11 fun h => h)
  clear hm11
  go_wp2_with fail
  obtain ⟨wb, hwb⟩ : ∃ W, W = w11.alloc (.cells #[.int .i64 a1, .int .i64 a2, .int .i64 a3, .string dn, .string dk] 23) := ⟨_, rfl⟩
  have HBwb : Hid (Blk wb w11.heap.size 23 #[.int .i64 a1, .int .i64 a2, .int .i64 a3, .string dn, .string dk]) := by rw [hwb]; exact Blk.new _ _ _
  have HMowb : Hid (Mod Non w11 wb) := by rw [hwb]; exact (Mod.refl _ _).alloc _
  have HMb := Lib.hid (HM11.out.trans0 HMowb.out)
  rw [← hwb]
  clear hwb
  refine (HD3.out wb HMb.out).mono ?_
  rintro r w12 ⟨A12, n12, c12, rfl, hn12, hr12, hm12⟩
  obtain rfl : n12 = hnodes.length := by
    have := hr12.1
    rw [List.length_map] at this
    exact this.symm
  have HM12 := Lib.hid (HMb.out.trans0 hm12)
  have HBa2 := Lib.hid (HBa.out.mod (HMowb.out.trans0 hm12) fun h => h)
  have HBb2 := Lib.hid (HBwb.out.mod hm12 fun h => h)
  have HR12 := Lib.hid hr12
  clear hm12 hr12
  go_wp2_with fail
  obtain ⟨wc, hwc⟩ : ∃ W, W = w12.alloc (.cells #[.int .i64 hs, .string hroot, .int .i64 htk, .int .i64 hep, .slice A12 hnodes.length c12, .string hsig] 37) := ⟨_, rfl⟩
  have HBwc : Hid (Blk wc w12.heap.size 37 #[.int .i64 hs, .string hroot, .int .i64 htk, .int .i64 hep, .slice A12 hnodes.length c12, .string hsig]) := by rw [hwc]; exact Blk.new _ _ _
  have HMowc : Hid (Mod Non w12 wc) := by rw [hwc]; exact (Mod.refl _ _).alloc _
  have HMc := Lib.hid (HM12.out.trans0 HMowc.out)
  rw [← hwc]
  clear hwc
  refine (HD4.out wc HMc.out).mono ?_
  rintro r w13 ⟨A13, n13, c13, rfl, -, hr13, hm13⟩
  obtain rfl : n13 = hnodes.length := by
    have := hr13.1
    rw [List.length_map] at this
    exact this.symm
  have HM13 := Lib.hid (HMc.out.trans0 hm13)
  have hm12d := HMowc.out.trans0 hm13
  have HBa3 := Lib.hid (HBa2.out.mod hm12d fun h => h)
  have HBb3 := Lib.hid (HBb2.out.mod hm12d fun h => h)
  have HBc3 := Lib.hid (HBwc.out.mod hm13 fun h => h)
  have HR12' := Lib.hid (HR12.out.mod0 hm12d)
  have HR13 := Lib.hid hr13
  clear hm13 hr13 hm12d
  go_wp2_with fail
  obtain ⟨we, hwe⟩ : ∃ W, W = w13.alloc (.cells #[.int .i64 hs, .string hroot, .int .i64 htk, .int .i64 hep, .slice A13 hnodes.length c13, .string hsig] 26) := ⟨_, rfl⟩
  have HBwe : Hid (Blk we w13.heap.size 26 #[.int .i64 hs, .string hroot, .int .i64 htk, .int .i64 hep, .slice A13 hnodes.length c13, .string hsig]) := by rw [hwe]; exact Blk.new _ _ _
  have HMowe : Hid (Mod Non w13 we) := by rw [hwe]; exact (Mod.refl _ _).alloc _
  have HMe := Lib.hid (HM13.out.trans0 HMowe.out)
  rw [← hwe]
  clear hwe
  have hde : Mod Non we { we with drawn := we.drawn + 1 } := (Mod.refl _ _).drew
  have ga0 : ∀ x : WorldOf (Mod Non we), x.W.cell? ⟨w10.heap.size, 0, none⟩ = some (.int .i64 a1) := fun x => (HBa3.out.mod (HMowe.out.trans0 x.ok) fun h => h).cell 0
  have ga1 : ∀ x : WorldOf (Mod Non we), x.W.cell? ⟨w10.heap.size, 1, none⟩ = some (.int .i64 a2) := fun x => (HBa3.out.mod (HMowe.out.trans0 x.ok) fun h => h).cell 1
  have ga2 : ∀ x : WorldOf (Mod Non we), x.W.cell? ⟨w10.heap.size, 2, none⟩ = some (.int .i64 a3) := fun x => (HBa3.out.mod (HMowe.out.trans0 x.ok) fun h => h).cell 2
  have ga3 : ∀ x : WorldOf (Mod Non we), x.W.cell? ⟨w10.heap.size, 3, none⟩ = some (.string dn) := fun x => (HBa3.out.mod (HMowe.out.trans0 x.ok) fun h => h).cell 3
  have ga4 : ∀ x : WorldOf (Mod Non we), x.W.cell? ⟨w10.heap.size, 4, none⟩ = some (.string dk) := fun x => (HBa3.out.mod (HMowe.out.trans0 x.ok) fun h => h).cell 4
  have gb0 : ∀ x : WorldOf (Mod Non we), x.W.cell? ⟨w11.heap.size, 0, none⟩ = some (.int .i64 a1) := fun x => (HBb3.out.mod (HMowe.out.trans0 x.ok) fun h => h).cell 0
  have gb1 : ∀ x : WorldOf (Mod Non we), x.W.cell? ⟨w11.heap.size, 1, none⟩ = some (.int .i64 a2) := fun x => (HBb3.out.mod (HMowe.out.trans0 x.ok) fun h => h).cell 1
  have gb2 : ∀ x : WorldOf (Mod Non we), x.W.cell? ⟨w11.heap.size, 2, none⟩ = some (.int .i64 a3) := fun x => (HBb3.out.mod (HMowe.out.trans0 x.ok) fun h => h).cell 2
  have gb3 : ∀ x : WorldOf (Mod Non we), x.W.cell? ⟨w11.heap.size, 3, none⟩ = some (.string dn) := fun x => (HBb3.out.mod (HMowe.out.trans0 x.ok) fun h => h).cell 3
  have gb4 : ∀ x : WorldOf (Mod Non we), x.W.cell? ⟨w11.heap.size, 4, none⟩ = some (.string dk) := fun x => (HBb3.out.mod (HMowe.out.trans0 x.ok) fun h => h).cell 4
  have gc0 : ∀ x : WorldOf (Mod Non we), x.W.cell? ⟨w12.heap.size, 0, none⟩ = some (.int .i64 hs) := fun x => (HBc3.out.mod (HMowe.out.trans0 x.ok) fun h => h).cell 0
  have gc1 : ∀ x : WorldOf (Mod Non we), x.W.cell? ⟨w12.heap.size, 1, none⟩ = some (.string hroot) := fun x => (HBc3.out.mod (HMowe.out.trans0 x.ok) fun h => h).cell 1
  have gc2 : ∀ x : WorldOf (Mod Non we), x.W.cell? ⟨w12.heap.size, 2, none⟩ = some (.int .i64 htk) := fun x => (HBc3.out.mod (HMowe.out.trans0 x.ok) fun h => h).cell 2
  have gc3 : ∀ x : WorldOf (Mod Non we), x.W.cell? ⟨w12.heap.size, 3, none⟩ = some (.int .i64 hep) := fun x => (HBc3.out.mod (HMowe.out.trans0 x.ok) fun h => h).cell 3
  have gc4 : ∀ x : WorldOf (Mod Non we), x.W.cell? ⟨w12.heap.size, 4, none⟩ = some (.slice A12 hnodes.length c12) := fun x => (HBc3.out.mod (HMowe.out.trans0 x.ok) fun h => h).cell 4
  have gc5 : ∀ x : WorldOf (Mod Non we), x.W.cell? ⟨w12.heap.size, 5, none⟩ = some (.string hsig) := fun x => (HBc3.out.mod (HMowe.out.trans0 x.ok) fun h => h).cell 5
  have ge0 : ∀ x : WorldOf (Mod Non we), x.W.cell? ⟨w13.heap.size, 0, none⟩ = some (.int .i64 hs) := fun x => (HBwe.out.mod x.ok fun h => h).cell 0
  have ge1 : ∀ x : WorldOf (Mod Non we), x.W.cell? ⟨w13.heap.size, 1, none⟩ = some (.string hroot) := fun x => (HBwe.out.mod x.ok fun h => h).cell 1
  have ge2 : ∀ x : WorldOf (Mod Non we), x.W.cell? ⟨w13.heap.size, 2, none⟩ = some (.int .i64 htk) := fun x => (HBwe.out.mod x.ok fun h => h).cell 2
  have ge3 : ∀ x : WorldOf (Mod Non we), x.W.cell? ⟨w13.heap.size, 3, none⟩ = some (.int .i64 hep) := fun x => (HBwe.out.mod x.ok fun h => h).cell 3
  have ge4 : ∀ x : WorldOf (Mod Non we), x.W.cell? ⟨w13.heap.size, 4, none⟩ = some (.slice A13 hnodes.length c13) := fun x => (HBwe.out.mod x.ok fun h => h).cell 4
  have ge5 : ∀ x : WorldOf (Mod Non we), x.W.cell? ⟨w13.heap.size, 5, none⟩ = some (.string hsig) := fun x => (HBwe.out.mod x.ok fun h => h).cell 5
  have hne : Nonempty (WorldOf (Mod Non we)) := ⟨⟨we, Mod.refl _ _⟩⟩
  have HTH : Hid (∀ W, Calls Tryz.prog 20 #[.agg #[.int .i64 hs, .string hroot, .int .i64 htk, .int .i64 hep, .slice A12 hnodes.length c12, .string hsig]] W fun e w' => e = .returned (.agg #[.int .i64 hs, .string hroot, .int .i64 htk, .int .i64 hep, .slice A12 hnodes.length c12, .string hsig]) ∧ Mod Non W w') := fun W => theirHead_any hs hroot htk hep A12 hnodes.length c12 hsig W
  have HSH : Hid (∀ W, Mod Non we W → Calls Tryz.prog 19 #[.agg #[.int .i64 hs, .string hroot, .int .i64 htk, .int .i64 hep, .slice A12 hnodes.length c12, .string hsig], .agg #[.int .i64 hs, .string hroot, .int .i64 htk, .int .i64 hep, .slice A13 hnodes.length c13, .string hsig]] W fun e w' => e = .returned (.bool true) ∧ Mod Non W w') := fun W hW => sameHead_eq hs hroot htk hep A12 A13 hnodes.length c12 c13 hnodes hsig W (HR12'.out.mod0 (HMowe.out.trans0 hW)) (HR13.out.mod0 (HMowe.out.trans0 hW)) hn12
  refine wp_region_class (S := Mod Non we) (by kernel_rfl) (by kernel_rfl) hde ?_
  repeat (go_big_quiet_step ((first
    | (go_at_call 18; exact Calls.quiet_class (HTT.out _))
    | (go_at_call 20; exact Calls.quiet_class (HTH.out _))
    | (go_at_call 19; exact Calls.quiet_class (HSH.out _ (WorldOf.ok _))))))
  refine wpQuiet_nil ?_
  rintro ⟨wf, hmf⟩
  dsimp only
  have HMF := Lib.hid (HM0.out.trans0 (HMe.out.trans0 hmf))
  clear hmf hde hne
  go_wp2_with fail
  go_ret
  exact ⟨rfl, HMF.out⟩

end Go.Proofs.YtgnpmmhpeianpaaGreatDoor
