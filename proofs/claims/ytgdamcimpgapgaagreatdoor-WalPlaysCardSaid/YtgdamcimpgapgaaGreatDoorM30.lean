/- The reference's disk: Crash. -/
import Derived.Test.YtgdamcimpgapgaaGreatDoorM28
import Derived.Test.YtgdamcimpgapgaaGreatDoorM29
import Derived.Test.YtgdamcimpgapgaaGreatDoorM31
namespace Go.Proofs.YtgdamcimpgapgaaGreatDoor
open Go.RowKit

/-- between two rounds of Crash. -/
structure CuM (w : World) (L : List Fl) (ys : List Fc) (k : Nat) (v : Value) (wr : World) : Prop where
  mod : Mod Non w wr
  eq : ys.map (·.f) = L.take k
  rd : ∀ y ∈ ys, Rd wr y.A y.f.bytes.length (by8 y.f.bytes) ∧ (y.f.bytes.length ≤ y.c ∧ y.c ≤ 9223372036854775807) ∧ ∀ b, blkOf y.A = some b → w.heap.size ≤ b ∧ b < wr.heap.size ∧ v.ownBlock ≠ some b
theorem crash1_n (D : Dk) (nm : ByteArray) (p : Option Int) : (crash1 D nm p).n = D.n ∧ (crash1 D nm p).done = D.done := by
  unfold crash1; split <;> exact ⟨rfl, rfl⟩
theorem crashL_n (picks : List Int) : ∀ (L : List ByteArray) (k : Nat) (D : Dk), (crashL picks k L D).n = D.n
  | [], _, _ => rfl
  | _ :: L, k, _ => by rw [crashL, crashL_n picks L (k + 1), (crash1_n _ _ _).1]
theorem crashL_done (picks : List Int) : ∀ (L : List ByteArray) (k : Nat) (D : Dk), (crashL picks k L D).done = D.done
  | [], _, _ => rfl
  | _ :: L, k, _ => by rw [crashL, crashL_done picks L (k + 1), (crash1_n _ _ _).2]
set_option maxRecDepth 100000 in
set_option maxHeartbeats 2000000 in
theorem crashR_any (E : Nat → Prop) (r : Nat) (D : Dk) (A : Option Addr) (n c : Nat) (picks : List Int) (w : World) (h : RkIs w E r D) (ok : DkOk D) (hp : Rd w A n (picks.map (Value.int .i64))) (hn : n ≤ 9223372036854775807) :
    Calls Tryz.prog 50 #[.pointer (some ⟨r, 0, none⟩), .slice A n c] w fun e w' => ∃ L, SortedOf D.files L ∧ RkPost E r (crashD D picks (L.map (·.name))) (.int .i64 0) w e w' := by
  obtain ⟨B, Ar, nr, cr, xs, h1, hE, hBE, hEl⟩ := h
  have hlen : xs.length = D.files.length := by have := h1.fs.perm.length_eq; simpa using this
  have hfl := files_len ok
  have hnr := h1.len
  have hnc := h1.nc
  have hcm := h1.cm
  have hn2 : nr ≤ 100000000000 := by omega
  have hpl : picks.length = n := by simpa using hp.1
  have c1w : w.cell? ⟨r, 1, none⟩ = some (.slice Ar nr cr) := h1.blk.cell 1
  have HU := Lib.hid (show ∀ y ∈ xs, y.f.bytes.length ≤ 1099511627776 ∧ y.f.safe ≤ y.f.bytes.length from fun y hy => by
    have hm := h1.fs.perm.mem_iff.1 (List.mem_map.2 ⟨y, hy, rfl⟩)
    exact ⟨(find_len ok ((find_iff ok.nd).2 ⟨hm, rfl⟩)).1, ok.sf _ hm⟩)
  have HN := Lib.hid hnr
  have HPL := Lib.hid hpl
  have HPK := Lib.hid hp
  have HR0 := Lib.hid h1
  have HND := Lib.hid ok.nd
  clear hlen hnr h1 hpl hp ok
  go_enter Tryz.func50, Tryz.ntmps50
  go_wp2_with fail
  clear c1w
  go_loopw [5, 6] (fun v i wr => ∃ (k : Nat) (ys : List Fc), k ≤ nr ∧ ys.length = k ∧ i = .int .i64 k ∧ wr.ownsRow w.heap.size 44 3 v k (flat3 ys) ∧ Hid (CuM w (crashS picks 0 (xs.map (·.f))) ys k v wr)) (fun _ i _ => nr - (intOf i).toNat)
  case atStart => exact ⟨0, [], Nat.zero_le _, rfl, rfl, World.ownsRow_nil _ _ _ _, ⟨Mod.refl _ _, by simp, by simp⟩⟩
  case round =>
    obtain ⟨k, ys, hk, hyk, rfl, hown, HP⟩ := hrel
    obtain ⟨Av, cv, rfl, hcv, hcv2⟩ := own_slice hown
    have hrw : w.heap.size ≤ wr.heap.size := HP.out.mod.size
    have HOWN := Lib.hid hown
    have HYK := Lib.hid hyk
    have hrow := hown.lt
    clear hown hyk
    by_cases hlt : k < nr
    · obtain ⟨b, o, y, rfl, hy, k0, k1, k2⟩ := HR0.out.row.file hlt
      have hym := List.mem_of_getElem? hy
      obtain ⟨hyl, hys⟩ := HU.out y hym
      obtain ⟨hk1, hk2⟩ := keepC_le hys picks[k]?
      have HYB := Lib.hid (((HR0.out.mod0 HP.out.mod).byt y hym).1)
      have hyc := ((HR0.out.mod0 HP.out.mod).byt y hym).2.1
      have hsn0 : (crashS picks 0 (xs.map (·.f)))[k]? = some (crashF y.f picks[k]?) := by rw [crashS_get, List.getElem?_map, hy]; simp
      have HSN := Lib.hid (take_snoc' _ k _ hsn0)
      obtain ⟨kp, hkp⟩ : ∃ kp, keepC y.f picks[k]? = kp := ⟨_, rfl⟩
      have HKP := Lib.hid hkp
      rw [hkp] at hk1 hk2
      obtain ⟨⟨yn, ysf, yb⟩, yA, yc⟩ := y
      simp only at k0 k1 k2 hyl hys hk1 hk2 hyc
      have K0 := Lib.hid k0
      have K1 := Lib.hid k1
      have K2 := Lib.hid k2
      have KC := Lib.hid (HR0.out.blk.cell 1)
      have g0 := HP.out.mod.cell k0 (fun h => h)
      have g1 := HP.out.mod.cell k1 (fun h => h)
      have g2 := HP.out.mod.cell k2 (fun h => h)
      have i1 : (0 : Int) ≤ (k : Int) := by omega
      have i2 : (k : Int) < (nr : Int) := by omega
      have c1x : wr.cell? ⟨r, 1, none⟩ = some (.slice (some ⟨b, o, none⟩) nr cr) := (HR0.out.mod0 HP.out.mod).blk.cell 1
      have hrl : r < wr.heap.size := (HR0.out.mod0 HP.out.mod).blk.lt
      have hbl : b < wr.heap.size := World.block_lt_of_cell? wr _ g2
      clear k0 k1 k2 hy hym hsn0 hkp
      by_cases hpk : k < n
      · obtain ⟨pb, po, rfl, pu, hpu, hpc⟩ := (HPK.out.mod0 HP.out.mod).at_ hpk
        rw [List.getElem?_map] at hpu
        cases hpx : picks[k]? with
        | none => rw [hpx] at hpu; cases hpu
        | some v =>
          rw [hpx] at hpu
          simp only [Option.map_some, Option.some.injEq] at hpu
          subst hpu
          have HKV : Hid (kp = ysf + (v % 18446744073709551616).toNat % (yb.length - ysf + 1)) := by show _ = _; rw [← HKP.out, hpx]; rfl
          have hpbl : pb < wr.heap.size := World.block_lt_of_cell? wr _ hpc
          have j1 : (k : Int) < (n : Int) := by omega
          clear hpx
          go_wp2_with fail
          go_quiet (fail)
          rw [keep_num v ysf yb.length hys hyl, ← HKV.out]
          have hM0 : Mod Non wr ((wr.alloc (.cells #[.string yn, .int .i64 (ysf : Int), .slice yA yb.length yc] 44)).drewN nq) := ((Mod.refl Non wr).alloc _).drewN nq
          have hBX : Blk ((wr.alloc (.cells #[.string yn, .int .i64 (ysf : Int), .slice yA yb.length yc] 44)).drewN nq) wr.heap.size 44 #[.string yn, .int .i64 (ysf : Int), .slice yA yb.length yc] := (Blk.new wr _ _).drewN nq
          generalize (wr.alloc (.cells #[.string yn, .int .i64 (ysf : Int), .slice yA yb.length yc] 44)).drewN nq = W1 at *
          have HM0 := Lib.hid hM0
          have HBX := Lib.hid hBX
          have b0 : W1.cell? ⟨wr.heap.size, 0, none⟩ = some (.string yn) := hBX.cell 0
          have b2 : W1.cell? ⟨wr.heap.size, 2, none⟩ = some (.slice yA yb.length yc) := hBX.cell 2
          have hbxl : wr.heap.size < W1.heap.size := hBX.lt
          have HTK : Hid (Rd W1 yA kp (by8 (yb.take kp))) := by
            show Rd _ _ _ _
            rw [by8_take]
            exact (HYB.out.mod0 hM0).take hk2
          have hkc : (kp : Int) ≤ (yc : Int) := by omega
          have hk0 : (0 : Int) ≤ (kp : Int) := by omega
          clear hM0 hBX g0 g1 g2 c1x
          go_wp2_with fail
          go_region_held3 (fun w' => w'.cell? ⟨wr.heap.size, 0, none⟩ = some (.string yn) ∧ w'.cell? ⟨wr.heap.size, 2, none⟩ = some (.slice yA yb.length yc))
            (first | exact ⟨b0q, b2q⟩ | go_keep)
            (first
              | (refine step_app8 bt _ rfl (.tmp 53) (.tmp 57) rfl W1.heap.size (.slice (some ⟨W1.heap.size, 0, none⟩) 0 0) 0 [] rfl (own_empty W1.drew 5 1) yA kp yc (yb.take kp) rfl ((HTK.out.drew).alloc _) kp (by omega) (yb.take kp) rfl (by omega) (by simp) ?_
                 intro pA pc pw phc pown pg pat
                 have MP := Lib.hid ((((Mod.refl Non W1).drew).alloc (.cells #[] 5)).trans (Mod.of_grown (S := fun g => (Value.slice (some ⟨W1.heap.size, 0, none⟩) 0 0).ownBlock = some g) pg fun _ h => h) fun g hg => .inr (by simp [Value.ownBlock] at hg; omega))
                 have b0p := MP.out.cell b0 (fun h => h)
                 have b2p := MP.out.cell b2 (fun h => h)
                 have hpz := MP.out.size
                 have hpcc : kp ≤ pc ∧ pc ≤ 9223372036854775807 := by
                   obtain ⟨A9, c9, e9, h8, h9⟩ := own_slice pown
                   injection e9 with _ _ e9
                   subst e9
                   exact ⟨h8, h9⟩
                 have POWN := Lib.hid pown
                 clear pown pg pat)
              | (refine step_appF _ rfl (.tmp 49) (.tmp 60) rfl w.heap.size (.slice Av k cv) k ys rfl ((own_mod (S := Non) HOWN.out (HM0.out.trans0 MP.out) (fun _ _ h => h)).alloc _) _ 1 1 [⟨⟨yn, kp, yb.take kp⟩, pA, pc⟩] rfl (by have := one_file pw 44 ⟨⟨yn, kp, yb.take kp⟩, pA, pc⟩; simp only [List.length_take, Nat.min_eq_left hk2] at this; exact this) (by omega) (by simp; omega) ?_
                 intro qA qc qw qhc qhcm qown qg qat
                 have MG := Lib.hid (Mod.of_grown (S := fun g => (Value.slice Av k cv).ownBlock = some g) qg fun _ h => h)
                 have MW := Lib.hid ((((HP.out.mod.trans0 HM0.out).trans0 MP.out).alloc (.cells #[.string yn, .int .i64 (kp : Int), .slice pA kp pc] 44)).trans MG.out fun g hg => .inr (hrow g hg).1)
                 have hbq := (((HBX.out.mod MP.out fun h => h).alloc (.cells #[.string yn, .int .i64 (kp : Int), .slice pA kp pc] 44)).mod MG.out fun h => by have := (hrow _ h).2; omega)
                 have b0q := hbq.cell 0
                 have b2q := hbq.cell 2
                 have QOWN := Lib.hid qown
                 have QAT := Lib.hid qat
                 clear qown qg qat hbq))
          all_goals
            clear b0q b2q b0p b2p
            go_wp2_with fail
            have hpo := own_base POWN.out
            have hplt := POWN.out.lt
            have hsz2 : (pw.alloc (.cells #[.string yn, .int .i64 (kp : Int), .slice pA kp pc] 44)).heap.size = pw.heap.size + 1 := by simp
            have hm0s := HM0.out.size
            have hnew : ∀ g, blkOf qA = some g → (Value.slice Av k cv).ownBlock = some g ∨ pw.heap.size ≤ g := fun g hg => by
              rcases QAT.out with h | h
              · exact .inl (by rw [← h]; exact hg)
              · rw [h] at hg; cases hg; exact .inr (by omega)
            go_roundw
            case rel =>
              refine ⟨k + 1, ys ++ [⟨⟨yn, kp, yb.take kp⟩, pA, pc⟩], by omega, by simp [HYK.out], by go_num, QOWN.out, ⟨MW.out, ?_, ?_⟩⟩
              · rw [HSN.out, List.map_append, HP.out.eq]
                show _ = _ ++ [(⟨yn, _, _⟩ : Fl)]
                rw [HKP.out]
                rfl
              · intro z hz
                rcases List.mem_append.1 hz with hz | hz
                · obtain ⟨a1, a3, a2⟩ := HP.out.rd z hz
                  refine ⟨(((a1.mod0 HM0.out).mod0 MP.out).alloc _).mod MG.out fun _ g hg e => (a2 g hg).2.2 e, a3, fun g hg => ⟨(a2 g hg).1, by have := (a2 g hg).2.1; have := MG.out.size; omega, fun e => ?_⟩⟩
                  rcases hnew g (by rw [slice_blk] at e; exact e) with h | h
                  · exact (a2 g hg).2.2 h
                  · have := (a2 g hg).2.1; omega
                · simp only [List.mem_singleton] at hz
                  subst hz
                  have hrd : Rd qw pA kp (by8 (yb.take kp)) := ((Rd.of_own POWN.out).alloc _).mod MG.out fun _ g hg e => by have := hpo g hg; have := (hrow g e).2; omega
                  refine ⟨by simpa [Nat.min_eq_left hk2] using hrd, by simpa [Nat.min_eq_left hk2] using hpcc, fun g hg => ⟨by have := hpo g hg; omega, by have := (hplt g (by rw [slice_blk]; exact hg)).2; have := MG.out.size; omega, fun e => ?_⟩⟩
                  rcases hnew g (by rw [slice_blk] at e; exact e) with h | h
                  · have := hpo g hg; have := (hrow g h).2; omega
                  · have := (hplt g (by rw [slice_blk]; exact hg)).2; omega
            case measure => simp [intOf]; omega
      · have hpx : picks[k]? = none := List.getElem?_eq_none (by rw [HPL.out]; omega)
        have HKV : Hid (kp = ysf) := by show _ = _; rw [← HKP.out, hpx]; rfl
        clear hpx
        obtain rfl : kp = ysf := HKV.out
        clear HKV
        go_wp2_with fail
        go_quiet (fail)
        have hM0 : Mod Non wr ((wr.alloc (.cells #[.string yn, .int .i64 (kp : Int), .slice yA yb.length yc] 44)).drewN nq) := ((Mod.refl Non wr).alloc _).drewN nq
        have hBX : Blk ((wr.alloc (.cells #[.string yn, .int .i64 (kp : Int), .slice yA yb.length yc] 44)).drewN nq) wr.heap.size 44 #[.string yn, .int .i64 (kp : Int), .slice yA yb.length yc] := (Blk.new wr _ _).drewN nq
        generalize (wr.alloc (.cells #[.string yn, .int .i64 (kp : Int), .slice yA yb.length yc] 44)).drewN nq = W1 at *
        have HM0 := Lib.hid hM0
        have HBX := Lib.hid hBX
        have b0 : W1.cell? ⟨wr.heap.size, 0, none⟩ = some (.string yn) := hBX.cell 0
        have b2 : W1.cell? ⟨wr.heap.size, 2, none⟩ = some (.slice yA yb.length yc) := hBX.cell 2
        have hbxl : wr.heap.size < W1.heap.size := hBX.lt
        have HTK : Hid (Rd W1 yA kp (by8 (yb.take kp))) := by
          show Rd _ _ _ _
          rw [by8_take]
          exact (HYB.out.mod0 hM0).take hk2
        have hkc : (kp : Int) ≤ (yc : Int) := by omega
        have hk0 : (0 : Int) ≤ (kp : Int) := by omega
        clear hM0 hBX g0 g1 g2 c1x
        go_wp2_with fail
        go_region_held3 (fun w' => w'.cell? ⟨wr.heap.size, 0, none⟩ = some (.string yn) ∧ w'.cell? ⟨wr.heap.size, 2, none⟩ = some (.slice yA yb.length yc))
          (first | exact ⟨b0q, b2q⟩ | go_keep)
          (first
            | (refine step_app8 bt _ rfl (.tmp 53) (.tmp 57) rfl W1.heap.size (.slice (some ⟨W1.heap.size, 0, none⟩) 0 0) 0 [] rfl (own_empty W1.drew 5 1) yA kp yc (yb.take kp) rfl ((HTK.out.drew).alloc _) kp (by omega) (yb.take kp) rfl (by omega) (by simp) ?_
               intro pA pc pw phc pown pg pat
               have MP := Lib.hid ((((Mod.refl Non W1).drew).alloc (.cells #[] 5)).trans (Mod.of_grown (S := fun g => (Value.slice (some ⟨W1.heap.size, 0, none⟩) 0 0).ownBlock = some g) pg fun _ h => h) fun g hg => .inr (by simp [Value.ownBlock] at hg; omega))
               have b0p := MP.out.cell b0 (fun h => h)
               have b2p := MP.out.cell b2 (fun h => h)
               have hpz := MP.out.size
               have hpcc : kp ≤ pc ∧ pc ≤ 9223372036854775807 := by
                 obtain ⟨A9, c9, e9, h8, h9⟩ := own_slice pown
                 injection e9 with _ _ e9
                 subst e9
                 exact ⟨h8, h9⟩
               have POWN := Lib.hid pown
               clear pown pg pat)
            | (refine step_appF _ rfl (.tmp 49) (.tmp 60) rfl w.heap.size (.slice Av k cv) k ys rfl ((own_mod (S := Non) HOWN.out (HM0.out.trans0 MP.out) (fun _ _ h => h)).alloc _) _ 1 1 [⟨⟨yn, kp, yb.take kp⟩, pA, pc⟩] rfl (by have := one_file pw 44 ⟨⟨yn, kp, yb.take kp⟩, pA, pc⟩; simp only [List.length_take, Nat.min_eq_left hk2] at this; exact this) (by omega) (by simp; omega) ?_
               intro qA qc qw qhc qhcm qown qg qat
               have MG := Lib.hid (Mod.of_grown (S := fun g => (Value.slice Av k cv).ownBlock = some g) qg fun _ h => h)
               have MW := Lib.hid ((((HP.out.mod.trans0 HM0.out).trans0 MP.out).alloc (.cells #[.string yn, .int .i64 (kp : Int), .slice pA kp pc] 44)).trans MG.out fun g hg => .inr (hrow g hg).1)
               have hbq := (((HBX.out.mod MP.out fun h => h).alloc (.cells #[.string yn, .int .i64 (kp : Int), .slice pA kp pc] 44)).mod MG.out fun h => by have := (hrow _ h).2; omega)
               have b0q := hbq.cell 0
               have b2q := hbq.cell 2
               have QOWN := Lib.hid qown
               have QAT := Lib.hid qat
               clear qown qg qat hbq))
        all_goals
          clear b0q b2q b0p b2p
          go_wp2_with fail
          have hpo := own_base POWN.out
          have hplt := POWN.out.lt
          have hsz2 : (pw.alloc (.cells #[.string yn, .int .i64 (kp : Int), .slice pA kp pc] 44)).heap.size = pw.heap.size + 1 := by simp
          have hm0s := HM0.out.size
          have hnew : ∀ g, blkOf qA = some g → (Value.slice Av k cv).ownBlock = some g ∨ pw.heap.size ≤ g := fun g hg => by
            rcases QAT.out with h | h
            · exact .inl (by rw [← h]; exact hg)
            · rw [h] at hg; cases hg; exact .inr (by omega)
          go_roundw
          case rel =>
            refine ⟨k + 1, ys ++ [⟨⟨yn, kp, yb.take kp⟩, pA, pc⟩], by omega, by simp [HYK.out], by go_num, QOWN.out, ⟨MW.out, ?_, ?_⟩⟩
            · rw [HSN.out, List.map_append, HP.out.eq]
              show _ = _ ++ [(⟨yn, _, _⟩ : Fl)]
              rw [HKP.out]
              rfl
            · intro z hz
              rcases List.mem_append.1 hz with hz | hz
              · obtain ⟨a1, a3, a2⟩ := HP.out.rd z hz
                refine ⟨(((a1.mod0 HM0.out).mod0 MP.out).alloc _).mod MG.out fun _ g hg e => (a2 g hg).2.2 e, a3, fun g hg => ⟨(a2 g hg).1, by have := (a2 g hg).2.1; have := MG.out.size; omega, fun e => ?_⟩⟩
                rcases hnew g (by rw [slice_blk] at e; exact e) with h | h
                · exact (a2 g hg).2.2 h
                · have := (a2 g hg).2.1; omega
              · simp only [List.mem_singleton] at hz
                subst hz
                have hrd : Rd qw pA kp (by8 (yb.take kp)) := ((Rd.of_own POWN.out).alloc _).mod MG.out fun _ g hg e => by have := hpo g hg; have := (hrow g e).2; omega
                refine ⟨by simpa [Nat.min_eq_left hk2] using hrd, by simpa [Nat.min_eq_left hk2] using hpcc, fun g hg => ⟨by have := hpo g hg; omega, by have := (hplt g (by rw [slice_blk]; exact hg)).2; have := MG.out.size; omega, fun e => ?_⟩⟩
                rcases hnew g (by rw [slice_blk] at e; exact e) with h | h
                · have := hpo g hg; have := (hrow g h).2; omega
                · have := (hplt g (by rw [slice_blk]; exact hg)).2; omega
          case measure => simp [intOf]; omega
    · obtain rfl : k = nr := by omega
      have hblk := (HR0.out.mod0 HP.out.mod).blk
      have c1x : wr.cell? ⟨r, 1, none⟩ = some (.slice Ar k cr) := hblk.cell 1
      have c3x : wr.cell? ⟨r, 3, none⟩ = some (.int .i64 D.left) := hblk.cell 3
      have c4x : wr.cell? ⟨r, 4, none⟩ = some (.bool D.off) := hblk.cell 4
      have f1x := hblk.frozen 1
      have f3x := hblk.frozen 3
      have f4x := hblk.frozen 4
      have HBLK := Lib.hid hblk
      clear hblk
      go_wp2_with fail
      go_ret
      have hset : Mod (fun k => k = r) wr (((wr.setCell ⟨r, 1, none⟩ (.slice Av k cv)).setCell ⟨r, 4, none⟩ (.bool false)).setCell ⟨r, 3, none⟩ (.int .i64 (-1))) := (((Mod.refl (fun k => k = r) wr).set1 1 _).set1 4 _).set1 3 _
      have hrl : r < w.heap.size := hEl r hE
      have hbase := own_base HOWN.out
      have hmx : maxLen = 9223372036854775807 := rfl
      have heq := HP.out.eq
      rw [List.take_of_length_le (by have := congrArg List.length (crashS_names picks 0 (xs.map (·.f))); simp [HN.out] at this; omega)] at heq
      have hsz : (((wr.setCell ⟨r, 1, none⟩ (.slice Av k cv)).setCell ⟨r, 4, none⟩ (.bool false)).setCell ⟨r, 3, none⟩ (.int .i64 (-1))).heap.size = wr.heap.size := by simp [World.setCell]
      refine ⟨xs.map (·.f), HR0.out.fs, rfl, fun q => E q ∨ (w.heap.size ≤ q ∧ q < wr.heap.size), ⟨fun q => w.heap.size ≤ q ∧ q < wr.heap.size, Av, k, cv, ys, ⟨?_, ?_, hcv, by omega, ?_, ?_, ?_, fun h => by omega⟩, .inl hE, fun q hq => .inr hq, fun q hq => ?_⟩, HP.out.mod.non.trans hset fun q hq => .inl hq, fun q hq => hq.imp id fun h => h.1⟩
      · have h3 := ((HBLK.out.set_ 1 (.slice Av k cv)).set_ 4 (.bool false)).set_ 3 (.int .i64 (-1))
        have e1 : (crashD D picks ((xs.map (·.f)).map (·.name))).n = D.n := crashL_n picks _ 0 D
        have e2 : (crashD D picks ((xs.map (·.f)).map (·.name))).done = D.done := crashL_done picks _ 0 D
        rw [e1, e2]
        exact h3
      · exact (Rd.of_own3 HOWN.out).mod hset fun _ b hb e => by have := hbase b hb; omega
      · rw [heq]
        exact HR0.out.fs.crash HND.out picks
      · intro y hy
        obtain ⟨a1, a3, a2⟩ := HP.out.rd y hy
        exact ⟨a1.mod hset fun _ b hb e => by have := (a2 b hb).1; omega, a3.1, a3.2, fun b hb => ⟨(a2 b hb).1, (a2 b hb).2.1⟩⟩
      · intro b hb
        exact ⟨hbase b hb, (HOWN.out.lt b (by rw [slice_blk]; exact hb)).2⟩
      · rw [hsz]
        rcases hq with hq | hq
        · have := hEl q hq; have := HP.out.mod.size; omega
        · exact hq.2

end Go.Proofs.YtgdamcimpgapgaaGreatDoor
