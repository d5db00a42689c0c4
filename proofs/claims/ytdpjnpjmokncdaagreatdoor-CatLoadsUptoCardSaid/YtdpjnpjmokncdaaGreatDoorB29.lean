/- disk: Crash, the walk. -/
import Derived.Test.YtdpjnpjmokncdaaGreatDoorB26
import Derived.Deep.RegionHeld3
import Derived.Test.YtdpjnpjmokncdaaGreatDoorB28
namespace Go.Proofs.YtdpjnpjmokncdaaGreatDoor
open Go.RowKit

def idxN (v : Value) : Nat := match v with
  | .int _ n => n.toNat
  | _ => 0

theorem keep_num (v : Int) (fs fl : Nat) (h : fs ≤ fl) (hl : fl ≤ 1099511627776) :
    wrap64 ((fs : Int) + wrap64 ((IntKind.u64.wrap v).tmod ((fl : Int) - fs + 1))) = ((fs + (v % 18446744073709551616).toNat % (fl - fs + 1) : Nat) : Int) := by
  rw [IntKind.wrap_u64]
  have h0 : 0 ≤ v % 18446744073709551616 := Int.emod_nonneg _ (by omega)
  obtain ⟨a, ha⟩ := Int.eq_ofNat_of_zero_le h0
  rw [ha]
  have e : (fl : Int) - fs + 1 = ((fl - fs + 1 : Nat) : Int) := by omega
  rw [e, Int.toNat_natCast, ← Int.ofNat_tmod]
  have hlt := Nat.mod_lt a (show 0 < fl - fs + 1 by omega)
  have e2 : wrap64 ((a % (fl - fs + 1) : Nat) : Int) = ((a % (fl - fs + 1) : Nat) : Int) := by unfold wrap64; omega
  rw [e2]
  unfold wrap64
  omega

set_option maxRecDepth 100000 in
set_option maxHeartbeats 2000000 in
theorem crash_any (F : Nat → Prop) (d : Nat) (D : Dk) (A : Option Addr) (n c : Nat) (picks : List Int) (w : World) (h : DiskIs w F d D) (ok : DkOk D) (hp : RdO w F A n (picks.map (Value.int .i64))) (hn : n ≤ 9223372036854775807) :
    Calls Tryz.prog 18 #[.pointer (some ⟨d, 0, none⟩), .slice A n c] w fun e w' => ∃ L, NamesAre D L ∧ DkPost F d (crashD D picks L) (.int .i64 0) w e w' := by
  have HH := Lib.hid h
  obtain ⟨G, m, kvs, hA, hFd, hFm, hGF, hFp, hFl⟩ := h
  have c2 : w.cell? ⟨d, 2, none⟩ = some (.map (some m)) := hA.blk.cell 2
  have HM := Lib.hid (made_yes d m w c2)
  have HA := Lib.hid hA
  have HO := Lib.hid ok
  have HPK := Lib.hid hp
  have hpl : picks.length = n := by simpa using hp.1.1
  have HPL := Lib.hid hpl
  have hdl := hA.blk.lt
  have hml := hA.map.lt
  clear hA ok hp hpl c2
  go_enter Tryz.func18, Tryz.ntmps18
  go_wp2_with (first
    | (go_at_call 48; refine HM.out.mono ?_; rintro e w' ⟨rfl, rfl⟩)
    | (go_at_call 16; refine (names_any F d D _ HH.out HO.out).mono ?_; rintro e w1 ⟨An, nn, cn, L, rfl, hL, hr1, hnn, hcn, hbn, hb1⟩))
  have HL := Lib.hid hL
  have hm1 : Mod Non w w1 := Mod.of_below hb1
  have HM1 := Lib.hid hm1
  have hll : L.length = nn := by simpa using hr1.1
  have HLL := Lib.hid hll
  have HR1 := Lib.hid hr1
  have hs1 := hm1.size
  clear hL hb1 hll hr1 hm1
  go_loopw [15] (fun i wr => ∃ (j : Nat) (kvs' : List (ByteArray × Value)), j ≤ nn ∧ i = .int .i64 j ∧ Hid (DkAt wr G d m kvs' (crashL picks 0 (L.take j) D)) ∧ Hid (Mod (fun k => k = d ∨ k = m) w1 wr)) (fun i _ => nn - idxN i)
  case atStart => exact ⟨0, kvs, Nat.zero_le _, rfl, HA.out.mod0 HM1.out, Mod.refl _ _⟩
  case round =>
    obtain ⟨j, kvs', hj, rfl, HD, HMr⟩ := hrel
    by_cases hlt : j < nn
    · have hrr : Rd wr An nn (L.map Value.string) := HR1.out.mod HMr.out fun _ b hb => by
        have := hbn b hb
        rintro (h | h) <;> omega
      obtain ⟨b, o, rfl, u, hu, hc⟩ := hrr.at_ hlt
      rw [List.getElem?_map] at hu
      cases hx : L[j]? with
      | none => rw [hx] at hu; cases hu
      | some nm =>
        rw [hx] at hu
        simp only [Option.map_some, Option.some.injEq] at hu
        subst hu
        have hmem : nm ∈ (crashL picks 0 (L.take j) D).files.map (·.name) := by
          rw [crashL_names]
          exact names_mem HL.out nm (List.mem_of_getElem? hx)
        obtain ⟨f, hf⟩ := findF_of_name hmem
        have hokj := crashL_ok picks (L.take j) 0 HO.out
        have hsn : Hid (crashL picks 0 (L.take (j + 1)) D = crash1 (crashL picks 0 (L.take j) D) nm picks[j]?) := by
          show _ = _
          rw [take_snoc' L j nm hx, crashL_snoc]
          simp only [List.length_take]
          rw [show 0 + min j L.length = j by rw [HLL.out]; omega]
        obtain ⟨Dj, hDj⟩ : ∃ Dj, crashL picks 0 (L.take j) D = Dj := ⟨_, rfl⟩
        rw [hDj] at hf hokj hsn HD
        obtain ⟨Af, cf, hg, hrf, hcf1, hcf2, hfG, hfn⟩ := found HD.out hf
        obtain ⟨hk1, hk2⟩ := keepC_le (hokj.sf _ (findF_mem hf)) picks[j]?
        have hflen : f.bytes.length ≤ 1099511627776 := by
          have hc := find_cost hf
          have h1 := hokj.us; have h2 := hokj.u1; have h3 := hokj.n1
          unfold costF at hc
          omega
        have hget : (lookKV kvs' nm).getD (.agg #[.string ⟨#[]⟩, .int .i64 0, .slice none 0 0]) = .agg #[.string nm, .int .i64 (f.safe : Int), .slice Af f.bytes.length cf] := by
          unfold gotten at hg
          injection hg with hg
          have := congrArg (fun a : Array Value => a[0]?) hg
          simpa using this
        have HV := Lib.hid hget
        clear hget
        have HHF := Lib.hid hf
        have HRF := Lib.hid hrf
        have HOK := Lib.hid hokj
        have c2r : wr.cell? ⟨d, 2, none⟩ = some (.map (some m)) := HD.out.blk.cell 2
        have hszr := HMr.out.size
        clear hg hf hrf hokj hx hmem hDj hrr
        obtain ⟨fl, hfl⟩ : ∃ fl, f.bytes.length = fl := ⟨_, rfl⟩
        obtain ⟨fs, hfs⟩ : ∃ fs, f.safe = fs := ⟨_, rfl⟩
        rw [hfl] at hk2 hflen hcf1 HRF HV
        rw [hfs] at hk1 HV
        have HFL := Lib.hid hfl
        have HFS := Lib.hid hfs
        clear hfl hfs
        have hpick : Hid (keepC f picks[j]? = match picks[j]? with
          | none => fs
          | some v => fs + (v % 18446744073709551616).toNat % (fl - fs + 1)) := by
          show _ = _
          unfold keepC
          rw [HFL.out, HFS.out]
          all_goals (cases picks[j]? <;> rfl)
        by_cases hpk : j < n
        · have hrp : Rd wr A n (picks.map (Value.int .i64)) := (HPK.out.1.mod0 HM1.out).mod HMr.out fun hn0 pb hb => by
            have := HPK.out.2 hn0 pb hb
            rintro (h | h)
            · exact this (h ▸ hFd)
            · exact this (h ▸ hFm)
          obtain ⟨pb, po, rfl, pu, hpu, hpc⟩ := hrp.at_ hpk
          rw [List.getElem?_map] at hpu
          cases hpx : picks[j]? with
          | none => rw [hpx] at hpu; cases hpu
          | some v =>
            rw [hpx] at hpu hpick hk1 hk2 hsn
            simp only [Option.map_some, Option.some.injEq] at hpu
            subst hpu
            have hkp : Hid (keepC f (some v) = fs + (v % 18446744073709551616).toNat % (fl - fs + 1)) := hpick.out
            clear hrp hpx hpick
            go_wp2_with (first
              | (at_lookup; refine wpList_look _ rfl (.tmp 23) (.tmp 24) false rfl strKey HD.out.map Tryz.underlying77 Tryz.underlying9 (zeroFile _) nm rfl rfl _ HV.out ?_))
            have hbox : Blk (wr.alloc (.cells #[.string nm, .int .i64 (fs : Int), .slice Af fl cf] 58)) wr.heap.size 58 #[.string nm, .int .i64 (fs : Int), .slice Af fl cf] := Blk.new _ _ _
            have hma : Mod Non wr (wr.alloc (.cells #[.string nm, .int .i64 (fs : Int), .slice Af fl cf] 58)) := (Mod.refl Non wr).alloc _
            have hD0 := HD.out.mod0 hma
            generalize wr.alloc (.cells #[.string nm, .int .i64 (fs : Int), .slice Af fl cf] 58) = W0 at *
            have HD0 := Lib.hid hD0
            have HBX := Lib.hid hbox
            have HMA := Lib.hid hma
            have b0 : W0.cell? ⟨wr.heap.size, 0, none⟩ = some (.string nm) := hbox.cell 0
            have b1 : W0.cell? ⟨wr.heap.size, 1, none⟩ = some (.int .i64 (fs : Int)) := hbox.cell 1
            have b2 : W0.cell? ⟨wr.heap.size, 2, none⟩ = some (.slice Af fl cf) := hbox.cell 2
            have hs0 : wr.heap.size < W0.heap.size := hbox.lt
            clear hD0 hbox hma

            have pc : W0.cell? ⟨pb, po + j, none⟩ = some (.int .i64 v) := HMA.out.cell hpc fun h => h
            go_quiet (fail)
            rw [keep_num v fs fl (by omega) hflen, ← hkp.out]
            have hW9 : Mod Non W0 (W0.drewN nq) := (Mod.refl Non W0).drewN nq
            have hbx9 := HBX.out.mod hW9 fun h => h
            have hd9 := HD0.out.mod0 hW9
            have hm9 := HMA.out.trans0 hW9
            clear pc b0 b1 b2 hs0 HBX HD0 hW9 HMA
            generalize W0.drewN nq = W9 at *
            generalize hkpe : keepC f (some v) = kp at *
            have HKP := Lib.hid hkpe
            clear hkpe
            have HD9 := Lib.hid hd9
            have HM9 := Lib.hid hm9
            have HBX9 := Lib.hid hbx9
            have b1 : W9.cell? ⟨wr.heap.size, 1, none⟩ = some (.int .i64 (fs : Int)) := hbx9.cell 1
            have b2 : W9.cell? ⟨wr.heap.size, 2, none⟩ = some (.slice Af fl cf) := hbx9.cell 2
            have d1 : W9.cell? ⟨d, 1, none⟩ = some (.int .i64 Dj.used) := hd9.blk.cell 1
            have d2 : W9.cell? ⟨d, 2, none⟩ = some (.map (some m)) := hd9.blk.cell 2
            have f1 := hd9.blk.frozen 1
            have hu0 := HOK.out.u0
            have hu1 := HOK.out.u1
            have hn1 := HOK.out.n1
            have hcost : (fl : Int) ≤ Dj.used := by
              have hc := find_cost HHF.out
              have := HOK.out.us
              unfold costF at hc
              rw [HFL.out] at hc
              omega
            have q1 : IntKind.i64.wrap ((fl : Int) - (kp : Int)) = (fl : Int) - kp := IntWalk.i64_in _ (by omega)
            have q2 : IntKind.i64.wrap (Dj.used - ((fl : Int) - (kp : Int))) = Dj.used - ((fl : Int) - kp) := IntWalk.i64_in _ (by omega)
            clear hd9 hbx9 hm9
            have hnd : wr.heap.size ≠ d := by omega
            go_wp2_with fail
            go_region
            have hm10 : Mod (fun k => k = d) W9 (W9.setCell ⟨d, 1, none⟩ (.int .i64 (Dj.used - ((fl : Int) - (kp : Int))))).drew := ((Mod.refl _ _).set1 1 _).drew
            have hd10 := ((HD9.out.setUsed (Dj.used - ((fl : Int) - (kp : Int)))).mod0 ((Mod.refl Non _).drew))
            have hbx10 := HBX9.out.mod hm10 hnd
            generalize (W9.setCell ⟨d, 1, none⟩ (.int .i64 (Dj.used - ((fl : Int) - (kp : Int))))).drew = W10 at *
            have HD10 := Lib.hid hd10
            have HM10 := Lib.hid hm10
            have HBX10 := Lib.hid hbx10
            have e2 : W10.cell? ⟨wr.heap.size, 2, none⟩ = some (.slice Af fl cf) := hbx10.cell 2
            have e3 : W10.cell? ⟨d, 2, none⟩ = some (.map (some m)) := hd10.blk.cell 2
            have i1 : (kp : Int) ≤ (cf : Int) := by omega
            have i2 : (0 : Int) ≤ (kp : Int) := by omega
            have i3 : (kp : Int) ≤ (fl : Int) := by omega
            have hnm : wr.heap.size ≠ m := by omega
            have hmd := HD10.out.dm
            clear q1 q2 b1 b2 d1 d2 f1 hd10 hbx10 hm10 HBX9
            go_wp2_with fail
            have tok : True := trivial
            go_region_held3 (fun w' => w'.cell? ⟨d, 2, none⟩ = some (.map (some m)) ∧ w'.cell? ⟨wr.heap.size, 2, none⟩ = some (.slice Af fl cf))
              (first | go_keep)
              (first
                | (have _t := tok
                   obtain ⟨w3, hrun, hp3, hm3⟩ := MapAt.run_put (P := Tryz.prog) strKey (HD10.out.map.mod0' ((Mod.refl Non W10).drew)) Tryz.underlying77 Tryz.underlying9 nm (.agg #[.string nm, .int .i64 (kp : Int), .slice Af kp kp])
                   rw [hrun]
                   clear hrun
                   have c23 := hm3.cell e3 (p := ⟨d, 2, none⟩) (fun e => hmd e)
                   have b23 := hm3.cell e2 (p := ⟨wr.heap.size, 2, none⟩) (fun e => by simp only at e; omega)
                   simp only [Result.andThen, Oper.upon]))
            have hm3' : Mod (fun k => k = m) W10 w3 := ((Mod.refl Non W10).drew).non.trans hm3 (fun _ h => .inl h)
            have htl : (f.bytes.take kp).length = kp := by rw [List.length_take, HFL.out]; omega
            have hfl3 : FlAt w3 G (nm, .agg #[.string nm, .int .i64 (kp : Int), .slice Af kp kp]) ⟨nm, kp, f.bytes.take kp⟩ := by
              refine ⟨rfl, Af, kp, by simp only [htl], ?_, by simp only; omega, by omega, hfG⟩
              simp only [htl]
              have r1 : Rd wr Af kp (by8 (f.bytes.take kp)) := by rw [by8_take]; exact HRF.out.take (by omega)
              have r2 := (r1.mod0 HM9.out).mod HM10.out fun _ b hb e => (HD.out.gd b (hfG b hb)).1 e
              exact r2.mod hm3' fun _ b hb e => (HD.out.gd b (hfG b hb)).2 e
            have hD11 := HD10.out.stored (f := ⟨nm, kp, f.bytes.take kp⟩) (B := w.heap.size) hp3 hm3' (fun k hk => hk) hfl3 (fun k hk => .inl hk) hdl hml
            go_wp2_with fail
            go_roundw
            case rel =>
              refine ⟨j + 1, putKV kvs' nm (.agg #[.string nm, .int .i64 (kp : Int), .slice Af kp kp]), by omega, by go_num, (?_ : DkAt w3 G d m _ _), ?_⟩
              · rw [hsn.out]
                unfold crash1
                rw [HHF.out]
                simp only [HKP.out, HFL.out]
                exact hD11
              · exact ((HMr.out.trans0 HM9.out).trans HM10.out fun k hk => .inl (.inl hk)).trans hm3' fun k hk => .inl (.inr hk)
            case measure => simp [idxN]; omega
        · have hpx : picks[j]? = none := by
            rw [List.getElem?_eq_none]
            rw [HPL.out]
            omega
          rw [hpx] at hpick hk1 hk2 hsn
          have hk0 : keepC f none = fs := hpick.out
          obtain ⟨kp, hkpe⟩ : ∃ kp, keepC f none = kp := ⟨_, rfl⟩
          have HKP := Lib.hid hkpe
          rw [hkpe] at hk1 hk2
          obtain rfl : kp = fs := by omega
          clear hpick hpx hk0 hkpe
          have hpk' : (n : Int) ≤ (j : Int) := by omega
          go_wp2_with (first
            | (at_lookup; refine wpList_look _ rfl (.tmp 23) (.tmp 24) false rfl strKey HD.out.map Tryz.underlying77 Tryz.underlying9 (zeroFile _) nm rfl rfl _ HV.out ?_))
          have hbox : Blk (wr.alloc (.cells #[.string nm, .int .i64 (kp : Int), .slice Af fl cf] 58)) wr.heap.size 58 #[.string nm, .int .i64 (kp : Int), .slice Af fl cf] := Blk.new _ _ _
          have hma : Mod Non wr (wr.alloc (.cells #[.string nm, .int .i64 (kp : Int), .slice Af fl cf] 58)) := (Mod.refl Non wr).alloc _
          have hD0 := HD.out.mod0 hma
          generalize wr.alloc (.cells #[.string nm, .int .i64 (kp : Int), .slice Af fl cf] 58) = W9 at *
          have HD0 := Lib.hid hD0
          have HBX := Lib.hid hbox
          have HMA := Lib.hid hma
          have b0 : W9.cell? ⟨wr.heap.size, 0, none⟩ = some (.string nm) := hbox.cell 0
          have b1 : W9.cell? ⟨wr.heap.size, 1, none⟩ = some (.int .i64 (kp : Int)) := hbox.cell 1
          have b2 : W9.cell? ⟨wr.heap.size, 2, none⟩ = some (.slice Af fl cf) := hbox.cell 2
          have hs0 : wr.heap.size < W9.heap.size := hbox.lt
          clear hD0 hbox hma

          have hbx9 := HBX.out
          have hd9 := HD0.out
          have hm9 := HMA.out
          clear b0 b1 b2 hs0 HBX HD0 HMA
          have HD9 := Lib.hid hd9
          have HM9 := Lib.hid hm9
          have HBX9 := Lib.hid hbx9
          have b1 : W9.cell? ⟨wr.heap.size, 1, none⟩ = some (.int .i64 (kp : Int)) := hbx9.cell 1
          have b2 : W9.cell? ⟨wr.heap.size, 2, none⟩ = some (.slice Af fl cf) := hbx9.cell 2
          have d1 : W9.cell? ⟨d, 1, none⟩ = some (.int .i64 Dj.used) := hd9.blk.cell 1
          have d2 : W9.cell? ⟨d, 2, none⟩ = some (.map (some m)) := hd9.blk.cell 2
          have f1 := hd9.blk.frozen 1
          have hu0 := HOK.out.u0
          have hu1 := HOK.out.u1
          have hn1 := HOK.out.n1
          have hcost : (fl : Int) ≤ Dj.used := by
            have hc := find_cost HHF.out
            have := HOK.out.us
            unfold costF at hc
            rw [HFL.out] at hc
            omega
          have q1 : IntKind.i64.wrap ((fl : Int) - (kp : Int)) = (fl : Int) - kp := IntWalk.i64_in _ (by omega)
          have q2 : IntKind.i64.wrap (Dj.used - ((fl : Int) - (kp : Int))) = Dj.used - ((fl : Int) - kp) := IntWalk.i64_in _ (by omega)
          clear hd9 hbx9 hm9
          have hnd : wr.heap.size ≠ d := by omega
          go_wp2_with fail
          go_region
          have hm10 : Mod (fun k => k = d) W9 (W9.setCell ⟨d, 1, none⟩ (.int .i64 (Dj.used - ((fl : Int) - (kp : Int))))).drew := ((Mod.refl _ _).set1 1 _).drew
          have hd10 := ((HD9.out.setUsed (Dj.used - ((fl : Int) - (kp : Int)))).mod0 ((Mod.refl Non _).drew))
          have hbx10 := HBX9.out.mod hm10 hnd
          generalize (W9.setCell ⟨d, 1, none⟩ (.int .i64 (Dj.used - ((fl : Int) - (kp : Int))))).drew = W10 at *
          have HD10 := Lib.hid hd10
          have HM10 := Lib.hid hm10
          have HBX10 := Lib.hid hbx10
          have e2 : W10.cell? ⟨wr.heap.size, 2, none⟩ = some (.slice Af fl cf) := hbx10.cell 2
          have e3 : W10.cell? ⟨d, 2, none⟩ = some (.map (some m)) := hd10.blk.cell 2
          have i1 : (kp : Int) ≤ (cf : Int) := by omega
          have i2 : (0 : Int) ≤ (kp : Int) := by omega
          have i3 : (kp : Int) ≤ (fl : Int) := by omega
          have hnm : wr.heap.size ≠ m := by omega
          have hmd := HD10.out.dm
          clear q1 q2 b1 b2 d1 d2 f1 hd10 hbx10 hm10 HBX9
          go_wp2_with fail
          have tok : True := trivial
          go_region_held3 (fun w' => w'.cell? ⟨d, 2, none⟩ = some (.map (some m)) ∧ w'.cell? ⟨wr.heap.size, 2, none⟩ = some (.slice Af fl cf))
            (first | go_keep)
            (first
              | (have _t := tok
                 obtain ⟨w3, hrun, hp3, hm3⟩ := MapAt.run_put (P := Tryz.prog) strKey (HD10.out.map.mod0' ((Mod.refl Non W10).drew)) Tryz.underlying77 Tryz.underlying9 nm (.agg #[.string nm, .int .i64 (kp : Int), .slice Af kp kp])
                 rw [hrun]
                 clear hrun
                 have c23 := hm3.cell e3 (p := ⟨d, 2, none⟩) (fun e => hmd e)
                 have b23 := hm3.cell e2 (p := ⟨wr.heap.size, 2, none⟩) (fun e => by simp only at e; omega)
                 simp only [Result.andThen, Oper.upon]))
          have hm3' : Mod (fun k => k = m) W10 w3 := ((Mod.refl Non W10).drew).non.trans hm3 (fun _ h => .inl h)
          have htl : (f.bytes.take kp).length = kp := by rw [List.length_take, HFL.out]; omega
          have hfl3 : FlAt w3 G (nm, .agg #[.string nm, .int .i64 (kp : Int), .slice Af kp kp]) ⟨nm, kp, f.bytes.take kp⟩ := by
            refine ⟨rfl, Af, kp, by simp only [htl], ?_, by simp only; omega, by omega, hfG⟩
            simp only [htl]
            have r1 : Rd wr Af kp (by8 (f.bytes.take kp)) := by rw [by8_take]; exact HRF.out.take (by omega)
            have r2 := (r1.mod0 HM9.out).mod HM10.out fun _ b hb e => (HD.out.gd b (hfG b hb)).1 e
            exact r2.mod hm3' fun _ b hb e => (HD.out.gd b (hfG b hb)).2 e
          have hD11 := HD10.out.stored (f := ⟨nm, kp, f.bytes.take kp⟩) (B := w.heap.size) hp3 hm3' (fun k hk => hk) hfl3 (fun k hk => .inl hk) hdl hml
          go_wp2_with fail
          go_roundw
          case rel =>
            refine ⟨j + 1, putKV kvs' nm (.agg #[.string nm, .int .i64 (kp : Int), .slice Af kp kp]), by omega, by go_num, (?_ : DkAt w3 G d m _ _), ?_⟩
            · rw [hsn.out]
              unfold crash1
              rw [HHF.out]
              simp only [HKP.out, HFL.out]
              exact hD11
            · exact ((HMr.out.trans0 HM9.out).trans HM10.out fun k hk => .inl (.inl hk)).trans hm3' fun k hk => .inl (.inr hk)
          case measure => simp [idxN]; omega
    · obtain rfl : j = nn := by omega
      have hD := HD.out
      rw [List.take_of_length_le (by rw [HLL.out]; omega)] at hD
      have d4 : wr.cell? ⟨d, 4, none⟩ = some (.int .i64 (crashL picks 0 L D).left) := hD.blk.cell 4
      have d5 : wr.cell? ⟨d, 5, none⟩ = some (.bool (crashL picks 0 L D).off) := hD.blk.cell 5
      have f4 := hD.blk.frozen 4
      have f5 := hD.blk.frozen 5
      have HDD := Lib.hid hD
      clear hD
      go_wp2_with fail
      go_ret
      refine ⟨L, HL.out, rfl, dk_fin (F := F) (w := w) ((HDD.out.setOff false).setLeft (-1)) hFd hFm hFp hFl (fun k hk => .inl (hGF k hk)) ?_ HA.out.lay.lt⟩
      refine ((((Mod.refl F w).trans0 HM1.out).trans HMr.out fun k hk => .inl ?_).setCell (p := ⟨d, 5, none⟩) (.inl hFd) _).setCell (p := ⟨d, 4, none⟩) (.inl hFd) _
      rcases hk with rfl | rfl
      · exact hFd
      · exact hFm

end Go.Proofs.YtdpjnpjmokncdaaGreatDoor

/- The program's disk: Dump. -/
namespace Go.Proofs.YtdpjnpjmokncdaaGreatDoor
open Go.RowKit

theorem rowD : ∃ i z, Tryz.prog.info? 58 = some i ∧ i.zero = some z ∧ i.size = 3 ∧ i.bytes = 48 ∧ z.cells.size = 3 := by
  obtain ⟨i, hi, h1, h2, h3⟩ := info_parts (P := Tryz.prog) (e := 58) (z := .agg #[.string ⟨#[]⟩, .int .i64 0, .slice none 0 0]) (size := 3) (bytes := 48) (by kernel_rfl)
  exact ⟨i, _, hi, h1, h2, h3, rfl⟩
theorem wpList_appD (w : World) {ops : Array Oper} {rest : List Oper} {o : Oper} {a : Act} {Q : Exit → Act → World → Prop} (hgd : o.guard = none) (s x : Operand)
    (ho : o.op = .call { callee := .builtin .append, args := #[s, x], argTypes := #[55, 55] })
    (base : Nat) (v : Value) (n : Nat) (xs : List Fc) (hs : a.eval s = v) (hown : w.ownsRow base 58 3 v n (flat3 xs))
    (A : Option Addr) (m c : Nat) (news : List Fc) (hx : a.eval x = .slice A m c) (hr : Rd w A (m * 3) (flat3 news))
    (h63 : n + m ≤ 1000000000000) (hbase : base ≤ w.heap.size)
    (h : ∀ A' c' w', n + m ≤ c' → c' ≤ 9223372036854775807 → w'.ownsRow base 58 3 (.slice A' (n + m) c') (n + m) (flat3 (xs ++ news)) → w.grownBy w' v.ownBlock → (blkOf A' = v.ownBlock ∨ blkOf A' = some w.heap.size) → wpList Tryz.prog ops Q rest (a.put o.dst (.slice A' (n + m) c')) w') : wpList Tryz.prog ops Q (o :: rest) a w := by
  obtain ⟨i, z, hi, hz, hs1, hb, hzs⟩ := rowD
  refine wpList_plain hgd fun K hK => ?_
  obtain ⟨v', w', hrun, h2, h3, h4⟩ := run_app3 (P := Tryz.prog) w base 55 o.type 58 i z 48 Tryz.underlying55 hi hz hs1 hb hzs v n (flat3 xs) hown A m c (flat3 news) hr (flat3_one _) (by simp only [maxLen]; omega) (by omega) hbase
  obtain ⟨A', c', rfl, hc, hcm⟩ := own_slice h2
  unfold Oper.wp execOp
  simp only [ho, resolve, invoke, builtin, Sem.run_bind, Sem.run_pure, Result.andThen_ok, List.map_toArray, List.map_cons, List.map_nil, hs, hx, hrun]
  rw [← flat3_append] at h2
  exact hK _ _ (h A' c' w' hc (by have : maxLen = 9223372036854775807 := rfl; omega) h2 h3 (by cases A' <;> exact h4))

set_option maxRecDepth 100000 in
set_option maxHeartbeats 2000000 in
theorem dump_any (F : Nat → Prop) (d : Nat) (D : Dk) (w : World) (h : DiskIs w F d D) (ok : DkOk D) (nd : (D.files.map (·.name)).Nodup) :
    Calls Tryz.prog 23 #[.pointer (some ⟨d, 0, none⟩)] w fun e w' => ∃ A n c ys, e = .returned (.slice A n c) ∧ SortedOf D.files (ys.map (·.f)) ∧ RdF w' A n ys ∧ n ≤ c ∧ c ≤ 9223372036854775807 ∧ Mod Non w w' := by
  have HH := Lib.hid h
  have HO := Lib.hid ok
  obtain ⟨K, hK⟩ := sorted_of D nd
  obtain ⟨G, m, kvs, hA, hFd, hFm, hGF, hFp, hFl⟩ := h
  have HA := Lib.hid hA
  have hdl := hA.blk.lt
  have HK := Lib.hid hK
  have hfl := files_len ok
  have hkl : K.length = D.files.length := hK.perm.length_eq
  have HND := Lib.hid nd
  clear hA ok hK nd
  go_enter Tryz.func23, Tryz.ntmps23
  go_wp2_with (first
    | (go_at_call 16; refine (names_any F d D _ HH.out HO.out).mono ?_; rintro e w1 ⟨An, nn, cn, L, rfl, hL, hr1, hnn, hcn, hbn, hb1⟩))
  have hLK := HK.out.names hL
  subst hLK
  have HM1 : Hid (Mod Non w w1) := Mod.of_below hb1
  have hll : K.length = nn := by simpa using hr1.1
  have HLL := Lib.hid hll
  have HR1 := Lib.hid hr1
  have hs1 := HM1.out.size
  have hn2 : nn ≤ 100000000000 := by omega
  have hsd : d < w1.heap.size := by omega
  have HD1 := Lib.hid (HA.out.mod0 HM1.out)
  clear hL hb1 hr1 hll hkl
  go_loopw [3, 10] (fun v i wr => ∃ (k : Nat) (ys : List Fc), k ≤ nn ∧ ys.length = k ∧ i = .int .i64 k ∧ wr.ownsRow w1.heap.size 58 3 v k (flat3 ys) ∧ Hid (DuM w1 K ys k v wr)) (fun _ i _ => nn - (intOf i).toNat)
  case atStart => exact ⟨0, [], Nat.zero_le _, rfl, rfl, World.ownsRow_nil _ _ _ _, ⟨Mod.refl _ _, by simp, by simp⟩⟩
  case round =>
    obtain ⟨k, ys, hk, hyk, rfl, hown, HP⟩ := hrel
    obtain ⟨Av, cv, rfl, hcv, hcv2⟩ := own_slice hown
    have hrw : w1.heap.size ≤ wr.heap.size := HP.out.mod.size
    have HOWN := Lib.hid hown
    have HYK := Lib.hid hyk
    have hrow := hown.lt
    clear hown hyk
    by_cases hlt : k < nn
    · have hrr := HR1.out.mod0 HP.out.mod
      obtain ⟨b, o, rfl, u, hu, hc⟩ := hrr.at_ hlt
      rw [List.getElem?_map, List.getElem?_map] at hu
      cases hx : K[k]? with
      | none => rw [hx] at hu; cases hu
      | some f =>
        rw [hx] at hu
        simp only [Option.map_some, Option.some.injEq] at hu
        subst hu
        have hfm : f ∈ D.files := HK.out.perm.mem_iff.1 (List.mem_of_getElem? hx)
        have hf : findF D.files f.name = some f := (find_iff HND.out).2 ⟨hfm, rfl⟩
        have HSN := Lib.hid (take_snoc' K k f hx)
        have HDr := Lib.hid (HD1.out.mod0 HP.out.mod)
        obtain ⟨Af, cf, hg, hrf, hcf1, hcf2, hfG, hfn⟩ := found HDr.out hf
        have hflen : f.bytes.length ≤ 1099511627776 := by
          have hc := find_cost hf
          have h1 := HO.out.us; have h2 := HO.out.u1; have h3 := HO.out.n1
          unfold costF at hc
          omega
        have hget : (lookKV kvs f.name).getD (.agg #[.string ⟨#[]⟩, .int .i64 0, .slice none 0 0]) = .agg #[.string f.name, .int .i64 (f.safe : Int), .slice Af f.bytes.length cf] := by
          unfold gotten at hg
          injection hg with hg
          have := congrArg (fun a : Array Value => a[0]?) hg
          simpa using this
        have HV := Lib.hid hget
        have HRF := Lib.hid hrf
        have d2 : wr.cell? ⟨d, 2, none⟩ = some (.map (some m)) := HDr.out.blk.cell 2
        have hdr : d < wr.heap.size := by omega
        clear hg hf hfn hrr hget hrf hx hfm
        obtain ⟨yn, ysf, yb⟩ := f
        simp only at hc hflen hcf1 HV HRF
        have i1 : (0 : Int) ≤ (k : Int) := by omega
        have i2 : (k : Int) < (nn : Int) := by omega
        go_wp2_with (first
          | (at_lookup; refine wpList_look _ rfl (.tmp 17) (.tmp 18) false rfl strKey HDr.out.map Tryz.underlying77 Tryz.underlying9 (zeroFile _) yn rfl rfl _ HV.out ?_))
        have hbox : Blk (wr.alloc (.cells #[.string yn, .int .i64 (ysf : Int), .slice Af yb.length cf] 58)) wr.heap.size 58 #[.string yn, .int .i64 (ysf : Int), .slice Af yb.length cf] := Blk.new _ _ _
        have hma : Mod Non wr (wr.alloc (.cells #[.string yn, .int .i64 (ysf : Int), .slice Af yb.length cf] 58)) := (Mod.refl Non wr).alloc _
        generalize wr.alloc (.cells #[.string yn, .int .i64 (ysf : Int), .slice Af yb.length cf] 58) = W0 at *
        have HBX := Lib.hid hbox
        have HMA := Lib.hid hma
        have b2 : W0.cell? ⟨wr.heap.size, 2, none⟩ = some (.slice Af yb.length cf) := hbox.cell 2
        have hs0 : wr.heap.size < W0.heap.size := hbox.lt
        clear hbox hma d2
        go_wp2_with fail
        refine (clone_any Af yb.length cf yb _ (HRF.out.mod0 HMA.out) (by omega)).mono ?_
        rintro e W2 ⟨pA, pc, rfl, pown, pb⟩
        have HM2 : Hid (Mod Non W0 W2) := Mod.of_below pb
        have hbx2 := HBX.out.mod HM2.out fun h => h
        have hs2 := HM2.out.size
        have POWN := Lib.hid pown
        have c0 : W2.cell? ⟨wr.heap.size, 2, none⟩ = some (.slice Af yb.length cf) := hbx2.cell 2
        have f2 := hbx2.frozen 2
        have hbx3 := hbx2.set_ 2 (.slice pA yb.length pc)
        have hm3 : Mod (fun k => k = wr.heap.size) W2 (W2.setCell ⟨wr.heap.size, 2, none⟩ (.slice pA yb.length pc)) := (Mod.refl _ _).set1 2 _
        have hz3 : (W2.setCell ⟨wr.heap.size, 2, none⟩ (.slice pA yb.length pc)).heap.size = W2.heap.size := by simp
        have e0 : (W2.setCell ⟨wr.heap.size, 2, none⟩ (.slice pA yb.length pc)).cell? ⟨wr.heap.size, 0, none⟩ = some (.string yn) := hbx3.cell 0
        have e1 : (W2.setCell ⟨wr.heap.size, 2, none⟩ (.slice pA yb.length pc)).cell? ⟨wr.heap.size, 1, none⟩ = some (.int .i64 (ysf : Int)) := hbx3.cell 1
        have e2 : (W2.setCell ⟨wr.heap.size, 2, none⟩ (.slice pA yb.length pc)).cell? ⟨wr.heap.size, 2, none⟩ = some (.slice pA yb.length pc) := hbx3.cell 2
        have HM3 := Lib.hid hm3
        have HOWN3 := Lib.hid (own_mod (own_mod (S := Non) HOWN.out (HMA.out.trans0 HM2.out) (fun _ _ h => h)) HM3.out (fun b hb e => by have := (hrow b hb).2; omega))
        have hone := one_file (W2.setCell ⟨wr.heap.size, 2, none⟩ (.slice pA yb.length pc)) 58 ⟨⟨yn, ysf, yb⟩, pA, pc⟩
        rw [hz3] at hone
        have HONE := Lib.hid hone
        clear b2 hbx2 pb pown hbx3 hm3 hone
        go_wp2_with (first
          | (at_builtin; refine wpList_appD _ rfl (.tmp 24) (.tmp 26) rfl w1.heap.size (.slice Av k cv) k ys rfl (HOWN3.out.alloc _) _ 1 1 [⟨⟨yn, ysf, yb⟩, pA, pc⟩] rfl HONE.out (by omega) (by simp; omega) ?_
             intro qA qc qw qhc qhcm qown qg qat))
        have hpo := own_base POWN.out
        have hplt := POWN.out.lt
        have MB : Mod Non wr ((W2.setCell ⟨wr.heap.size, 2, none⟩ (.slice pA yb.length pc)).alloc (.cells #[.string yn, .int .i64 (ysf : Int), .slice pA yb.length pc] 58)) := ((HMA.out.trans0 HM2.out).trans HM3.out fun k hk => .inr (by omega)).alloc _
        have hsz2 : ((W2.setCell ⟨wr.heap.size, 2, none⟩ (.slice pA yb.length pc)).alloc (.cells #[.string yn, .int .i64 (ysf : Int), .slice pA yb.length pc] 58)).heap.size = W2.heap.size + 1 := by simp
        have hpr := (((Rd.of_own POWN.out).mod HM3.out (fun _ g hg e => by have := hpo g hg; omega)).alloc (.cells #[.string yn, .int .i64 (ysf : Int), .slice pA yb.length pc] 58))
        clear e0 e1 e2
        generalize (W2.setCell ⟨wr.heap.size, 2, none⟩ (.slice pA yb.length pc)).alloc (.cells #[.string yn, .int .i64 (ysf : Int), .slice pA yb.length pc] 58) = W4 at *
        have MG : Mod (fun g => (Value.slice Av k cv).ownBlock = some g) W4 qw := Mod.of_grown qg fun _ h => h
        have MW : Mod Non w1 qw := (HP.out.mod.trans0 MB).trans MG fun g hg => .inr (hrow g hg).1
        have hnew : ∀ g, blkOf qA = some g → (Value.slice Av k cv).ownBlock = some g ∨ W4.heap.size ≤ g := fun g hg => by
          rcases qat with h | h
          · exact .inl (by rw [← h]; exact hg)
          · rw [h] at hg; cases hg; exact .inr (by omega)
        have hq2 := MG.size
        have hq3 := MB.size
        go_roundw
        case rel =>
          refine ⟨k + 1, ys ++ [⟨⟨yn, ysf, yb⟩, pA, pc⟩], by omega, by simp [HYK.out], by go_num, qown, ⟨MW, ?_, ?_⟩⟩
          · rw [HSN.out, List.map_append, HP.out.eq]; rfl
          · intro z hz
            rcases List.mem_append.1 hz with hz | hz
            · obtain ⟨a1, a2⟩ := HP.out.rd z hz
              refine ⟨(a1.mod0 MB).mod MG fun _ g hg e => (a2 g hg).2.2 e, fun g hg => ⟨(a2 g hg).1, by have := (a2 g hg).2.1; omega, fun e => ?_⟩⟩
              rcases hnew g (by rw [slice_blk] at e; exact e) with h | h
              · exact (a2 g hg).2.2 h
              · have := (a2 g hg).2.1; omega
            · simp only [List.mem_singleton] at hz
              subst hz
              refine ⟨hpr.mod MG fun _ g hg e => by have := hpo g hg; have := (hrow g e).2; omega, fun g hg => ⟨by have := hpo g hg; omega, by have := (hplt g (by rw [slice_blk]; exact hg)).2; omega, fun e => ?_⟩⟩
              rcases hnew g (by rw [slice_blk] at e; exact e) with h | h
              · have := hpo g hg; have := (hrow g h).2; omega
              · have := (hplt g (by rw [slice_blk]; exact hg)).2; omega
        case measure => simp [intOf]; omega
    · obtain rfl : k = nn := by omega
      go_wp2_with fail
      go_ret
      have heq := HP.out.eq
      rw [List.take_of_length_le (by rw [HLL.out]; omega)] at heq
      have hmx : maxLen = 9223372036854775807 := rfl
      exact ⟨Av, k, cv, ys, rfl, by rw [heq]; exact HK.out, ⟨Rd.of_own3 HOWN.out, fun y hy => (HP.out.rd y hy).1⟩, hcv, by omega, HM1.out.trans0 HP.out.mod⟩

end Go.Proofs.YtdpjnpjmokncdaaGreatDoor

/- Load, plain: files that are handed in, laid on an empty disk one by one. -/
namespace Go.Proofs.YtdpjnpjmokncdaaGreatDoor
open Go.RowKit

/-- a file that is handed in. -/
structure Fw where
  name : ByteArray
  safe : Int
  bytes : List UInt8
  A : Option Addr
  c : Nat
def Fw.fl (x : Fw) : Fl := ⟨x.name, x.safe.toNat, x.bytes⟩
def Fw.cells (x : Fw) : List Value := [.string x.name, .int .i64 x.safe, .slice x.A x.bytes.length x.c]
def flatW : List Fw → List Value
  | [] => []
  | x :: r => x.cells ++ flatW r
theorem flatW_append (p q : List Fw) : flatW (p ++ q) = flatW p ++ flatW q := by
  induction p with
  | nil => rfl
  | cons b r ih => rw [List.cons_append, flatW, flatW, ih, List.append_assoc]
theorem flatW_len (xs : List Fw) : (flatW xs).length = xs.length * 3 := by
  induction xs with
  | nil => rfl
  | cons b r ih => rw [flatW, List.length_append, ih, List.length_cons]; simp [Fw.cells]; omega
theorem flatW_get {xs : List Fw} {i : Nat} {x : Fw} (h : xs[i]? = some x) (j : Nat) (hj : j < 3) : (flatW xs)[i * 3 + j]? = x.cells[j]? := by
  induction xs generalizing i with
  | nil => cases h
  | cons b r ih =>
    cases i with
    | zero =>
      simp only [List.getElem?_cons_zero, Option.some.injEq] at h
      subst h
      rw [flatW, Nat.zero_mul, Nat.zero_add, List.getElem?_append_left (by simp [Fw.cells]; omega)]
    | succ i =>
      rw [List.getElem?_cons_succ] at h
      have e : (i + 1) * 3 + j = (b.cells).length + (i * 3 + j) := by simp [Fw.cells]; omega
      rw [flatW, e, List.getElem?_append_right (by omega), Nat.add_sub_cancel_left]
      exact ih h
theorem Rd.fileW {w : World} {A : Option Addr} {n : Nat} {xs : List Fw} (h : Rd w A (n * 3) (flatW xs)) {i : Nat} (hi : i < n) :
    ∃ b o x, A = some ⟨b, o, none⟩ ∧ xs[i]? = some x ∧ w.cell? ⟨b, o + i * 3, none⟩ = some (.string x.name) ∧ w.cell? ⟨b, o + i * 3 + 1, none⟩ = some (.int .i64 x.safe) ∧ w.cell? ⟨b, o + i * 3 + 2, none⟩ = some (.slice x.A x.bytes.length x.c) := by
  have hl : xs.length = n := by have := h.1; rw [flatW_len] at this; omega
  obtain ⟨b, o, rfl, hc⟩ := h.2 (by omega)
  have hx : xs[i]? = some xs[i] := List.getElem?_eq_getElem (by omega)
  refine ⟨b, o, xs[i], rfl, hx, ?_, ?_, ?_⟩
  · exact hc (i * 3) _ (by rw [show i * 3 = i * 3 + 0 from rfl, flatW_get hx 0 (by omega)]; rfl)
  · rw [Nat.add_assoc]; exact hc (i * 3 + 1) _ (by rw [flatW_get hx 1 (by omega)]; rfl)
  · rw [Nat.add_assoc]; exact hc (i * 3 + 2) _ (by rw [flatW_get hx 2 (by omega)]; rfl)

/-- may a file not be laid? -/
def badW (D : Dk) (x : Fw) : Bool := !named x.name || ((findF D.files x.name).isSome || (decide (x.safe < 0) || decide ((x.bytes.length : Int) < x.safe)))
def addW (D : Dk) (x : Fw) : Dk := { D with used := D.used + costF x.fl, files := putF D.files x.fl }
def loadG : Dk → List Fw → Option Dk
  | D, [] => some D
  | D, x :: r => if badW D x then none else loadG (addW D x) r
def costW : List Fw → Int
  | [] => 0
  | x :: r => 116 + (x.bytes.length : Int) + costW r
def loadP (cap : Int) (fs : List Fw) : Option Dk := match loadG (newD cap) fs with
  | some D => if cap < D.used then none else some D
  | none => none

theorem loadG_append (q : List Fw) : ∀ (p : List Fw) (D : Dk), loadG D (p ++ q) = (loadG D p).bind fun E => loadG E q
  | [], _ => rfl
  | x :: r, D => by
    rw [List.cons_append, loadG, loadG]
    split
    · rfl
    · exact loadG_append q r _
theorem costW_nonneg : ∀ l : List Fw, 0 ≤ costW l
  | [] => Int.le_refl _
  | x :: r => by have := costW_nonneg r; simp only [costW]; omega
theorem costW_append (q : List Fw) : ∀ p : List Fw, costW (p ++ q) = costW p + costW q
  | [] => by simp [costW]
  | x :: r => by rw [List.cons_append, costW, costW, costW_append q r]; omega

/-- a disk that is being laid: it may be too full. -/
structure LdOk (cap : Int) (D : Dk) (xs : List Fw) : Prop where
  n : D.n = cap
  done : D.done = 0
  left : D.left = -1
  off : D.off = false
  used : D.used ≤ costW xs
  u0 : 0 ≤ D.used
  us : usedF D.files = D.used
  sf : ∀ f ∈ D.files, f.safe ≤ f.bytes.length
  nm : ∀ f ∈ D.files, named f.name = true
  nd : (D.files.map (·.name)).Nodup
  len : D.files.length = xs.length

theorem LdOk.start (cap : Int) : LdOk cap (newD cap) [] := ⟨rfl, rfl, rfl, rfl, Int.le_refl _, Int.le_refl _, rfl, by simp [newD], by simp [newD], by simp [newD], rfl⟩
theorem badW_no {D : Dk} {x : Fw} (h : badW D x = false) : named x.name = true ∧ findF D.files x.name = none ∧ 0 ≤ x.safe ∧ x.safe ≤ x.bytes.length := by
  unfold badW at h
  simp only [Bool.or_eq_false_iff, Bool.not_eq_false', decide_eq_false_iff_not, Option.isSome_eq_false_iff, Option.isNone_iff_eq_none] at h
  obtain ⟨h1, h2, h3, h4⟩ := h
  exact ⟨h1, h2, by omega, by omega⟩
theorem LdOk.next {cap : Int} {D : Dk} {xs : List Fw} (h : LdOk cap D xs) {x : Fw} (hb : badW D x = false) : LdOk cap (addW D x) (xs ++ [x]) := by
  obtain ⟨h1, h2, h3, h4⟩ := badW_no hb
  have hn : findF D.files x.fl.name = none := h2
  have hz : x.fl.name.size ≤ 100 := named_size h1
  refine ⟨h.n, h.done, h.left, h.off, ?_, ?_, ?_, ?_, ?_, nodup_put _ h.nd, ?_⟩
  · have hu := h.used
    show D.used + costF x.fl ≤ _
    have hb2 : x.fl.bytes.length = x.bytes.length := rfl
    rw [costW_append]
    simp only [costW, costF]
    omega
  · have hu := h.u0
    show 0 ≤ D.used + costF x.fl
    unfold costF
    omega
  · show usedF (putF D.files x.fl) = _
    rw [usedF_put_new _ hn, h.us]; rfl
  · intro f hf
    rcases mem_put hf with rfl | hf
    · show x.safe.toNat ≤ x.bytes.length
      omega
    · exact h.sf f hf
  · intro f hf
    rcases mem_put hf with rfl | hf
    · exact h1
    · exact h.nm f hf
  · have := congrArg List.length (names_put_new x.fl hn)
    simp only [List.length_map, List.length_append, List.length_cons, List.length_nil] at this
    rw [List.length_append, ← h.len]
    exact this
theorem LdOk.fin {cap : Int} {D : Dk} {xs : List Fw} (h : LdOk cap D xs) (h0 : 0 ≤ cap) (h1 : cap ≤ 1099511627776) (hu : D.used ≤ cap) : DkOk D :=
  ⟨by rw [h.n]; exact h0, by rw [h.n]; exact h1, h.u0, by rw [h.n]; exact hu, by rw [h.left]; omega, by rw [h.left]; omega, h.us, h.sf, h.nm, h.nd⟩
theorem loadG_ok {cap : Int} : ∀ {xs ys : List Fw} {D E : Dk}, LdOk cap D ys → loadG D xs = some E → LdOk cap E (ys ++ xs)
  | [], ys, D, E, h, he => by cases he; rwa [List.append_nil]
  | x :: r, ys, D, E, h, he => by
    rw [loadG] at he
    split at he
    · cases he
    · rename_i hb
      have := loadG_ok (h.next (by simpa using hb)) he
      rwa [List.append_assoc] at this
theorem loadP_ok {cap : Int} {xs : List Fw} {D : Dk} (h : loadP cap xs = some D) (h0 : 0 ≤ cap) (h1 : cap ≤ 1099511627776) : DkOk D := by
  unfold loadP at h
  cases hg : loadG (newD cap) xs with
  | none => rw [hg] at h; cases h
  | some E =>
    rw [hg] at h
    simp only at h
    split at h
    · cases h
    · cases h
      exact (loadG_ok (LdOk.start cap) hg).fin h0 h1 (by omega)

end Go.Proofs.YtdpjnpjmokncdaaGreatDoor

/- disk.Load, the walk. -/
namespace Go.Proofs.YtdpjnpjmokncdaaGreatDoor
open Go.RowKit

/-- what Load answers. -/
def LdPost (R : Option Dk) (w : World) (e : Ending) (w' : World) : Prop := match R with
  | some D => ∃ d F, e = .returned (.tuple #[.pointer (some ⟨d, 0, none⟩), .int .i64 0]) ∧ DiskIs w' F d D ∧ Mod Non w w' ∧ ∀ k, F k → w.heap.size ≤ k
  | none => ∃ E : Int, e = .returned (.tuple #[.pointer none, .int .i64 E]) ∧ E ≠ 0 ∧ Mod Non w w'
theorem DkAt.disk {w : World} {G : Nat → Prop} {d m : Nat} {kvs : List (ByteArray × Value)} {D : Dk} (h : DkAt w G d m kvs D) {B : Nat} (hG : ∀ j, G j → B ≤ j ∧ j < w.heap.size) (hd : B ≤ d) (hm : B ≤ m) (hp : powG < B) :
    DiskIs w (fun k => k = d ∨ k = m ∨ G k) d D :=
  ⟨G, m, kvs, h, .inl rfl, .inr (.inl rfl), fun _ h => .inr (.inr h), by rintro (h | h | h); omega; omega; have := (hG _ h).1; omega, by rintro k (rfl | rfl | hk); exact h.blk.lt; exact h.map.lt; exact (hG k hk).2⟩
theorem costW_mem {x : Fw} : ∀ {l : List Fw}, x ∈ l → 116 + (x.bytes.length : Int) ≤ costW l
  | [], h => by cases h
  | y :: r, h => by
    have := costW_nonneg r
    rcases List.mem_cons.1 h with rfl | h
    · simp only [costW]; omega
    · have := costW_mem h
      simp only [costW]; omega
theorem loadP_stop {cap : Int} {fs : List Fw} {k : Nat} {x : Fw} {E : Dk} (h : loadG (newD cap) (fs.take k) = some E) (hx : fs[k]? = some x) (hb : badW E x = true) : loadP cap fs = none := by
  have hlt : k < fs.length := (List.getElem?_eq_some_iff.1 hx).1
  have hd : fs.drop k = x :: fs.drop (k + 1) := by
    rw [List.drop_eq_getElem_cons hlt]
    congr 1
    exact (List.getElem?_eq_some_iff.1 hx).2
  have : loadG (newD cap) fs = none := by
    rw [← List.take_append_drop k fs, loadG_append, h, hd]
    show loadG E (x :: _) = none
    rw [loadG, if_pos hb]
  unfold loadP
  rw [this]
theorem loadP_full {cap : Int} {fs : List Fw} {E : Dk} (h : loadG (newD cap) fs = some E) (hu : cap < E.used) : loadP cap fs = none := by
  unfold loadP
  rw [h]
  exact if_pos hu
theorem loadP_done {cap : Int} {fs : List Fw} {E : Dk} (h : loadG (newD cap) fs = some E) (hu : ¬ cap < E.used) : loadP cap fs = some E := by
  unfold loadP
  rw [h]
  exact if_neg hu

set_option maxRecDepth 100000 in
set_option maxHeartbeats 2000000 in
theorem load_any (cap : Int) (A : Option Addr) (n c : Nat) (fs : List Fw) (w : World) (hL : Lay w) (h0 : 0 ≤ cap) (h1 : cap ≤ 1099511627776) (hx : Rd w A (n * 3) (flatW fs))
    (hb : ∀ x ∈ fs, Rd w x.A x.bytes.length (by8 x.bytes)) (hz : ∀ x ∈ fs, x.name.size ≤ 140737488351232) (hc : costW fs ≤ 1099511627776) (hn : n ≤ 100000000000) :
    Calls Tryz.prog 59 #[.int .i64 cap, .slice A n c] w (LdPost (loadP cap fs) w) := by
  obtain ⟨R, hR⟩ : ∃ R, loadP cap fs = R := ⟨_, rfl⟩
  rw [hR]
  have HR := Lib.hid hR
  have hlen : fs.length = n := by have := hx.1; rw [flatW_len] at this; omega
  have HLEN := Lib.hid hlen
  have HX := Lib.hid hx
  have HB := Lib.hid hb
  have HC := Lib.hid hc
  have HZ := Lib.hid hz
  have hpw := hL.lt
  have HN := Lib.hid (new_yes cap w hL h0 h1)
  clear hR hlen hx hb hc hL hz
  go_enter Tryz.func59, Tryz.ntmps59
  go_wp2_with (first
    | (go_at_call 10; refine HN.out.mono ?_; rintro e w1 ⟨d, F, rfl, hDI, hbw, hF⟩))
  have HM1 : Hid (Mod Non w w1) := Mod.of_below hbw
  obtain ⟨G0, m, kvs0, hA, hFd, hFm, hGF, hFp, hFl⟩ := hDI
  have hdw := hF d hFd
  have hmw := hF m hFm
  have hdl := hFl d hFd
  have hml := hFl m hFm
  have HA := Lib.hid hA
  have HG0 : Hid (∀ j, G0 j → w.heap.size ≤ j ∧ j < w1.heap.size) := fun j hj => ⟨hF j (hGF j hj), hFl j (hGF j hj)⟩
  clear hA hbw hF hFl hGF hFp
  go_loopw [20] (fun i wr => ∃ (k : Nat) (E : Dk) (kvs : List (ByteArray × Value)) (G : Nat → Prop), k ≤ n ∧ i = .int .i64 k ∧ w1.heap.size ≤ wr.heap.size ∧ Hid (DkAt wr G d m kvs E) ∧ Hid (∀ j, G j → w.heap.size ≤ j ∧ j < wr.heap.size) ∧ Hid (loadG (newD cap) (fs.take k) = some E) ∧ Hid (Mod Non w wr)) (fun i _ => n - idxN i)
  case atStart => exact ⟨0, newD cap, kvs0, G0, Nat.zero_le _, rfl, Nat.le_refl _, HA.out, HG0.out, rfl, HM1.out⟩
  case round =>
    obtain ⟨k, E, kvs, G, hk, rfl, hwr, HD, HG, HLG, HM⟩ := hrel
    by_cases hlt : k < n
    · obtain ⟨b, o, x, rfl, hxk, k0, k1, k2⟩ := (HX.out.mod0 HM.out).fileW hlt
      have hxm := List.mem_of_getElem? hxk
      have hxc := costW_mem hxm
      have hxb : x.name.size ≤ 140737488351232 ∧ x.bytes.length ≤ 1099511627776 := by
        have := HC.out
        have := HZ.out x hxm
        omega
      have HXK := Lib.hid hxk
      have HXB := Lib.hid ((HB.out x hxm).mod0 HM.out)
      have hlok := Lib.hid (loadG_ok (LdOk.start cap) HLG.out)
      obtain ⟨yn, ysf, yb, yA, yc⟩ := x
      simp only at k0 k1 k2 hxb
      obtain ⟨hx1, hx2⟩ := hxb
      have i1 : (0 : Int) ≤ (k : Int) := by omega
      have i2 : (k : Int) < (n : Int) := by omega
      have hdr : d < wr.heap.size := by omega
      have hmr : m < wr.heap.size := by omega
      clear hxk hxm hxc
      go_wp2_with fail
      have hbox : Blk (wr.alloc (.cells #[.string yn, .int .i64 ysf, .slice yA yb.length yc] 58)) wr.heap.size 58 #[.string yn, .int .i64 ysf, .slice yA yb.length yc] := Blk.new _ _ _
      have hma : Mod Non wr (wr.alloc (.cells #[.string yn, .int .i64 ysf, .slice yA yb.length yc] 58)) := (Mod.refl Non wr).alloc _
      generalize wr.alloc (.cells #[.string yn, .int .i64 ysf, .slice yA yb.length yc] 58) = W0 at *
      have HBX := Lib.hid hbox
      have HMA := Lib.hid hma
      have b0 : W0.cell? ⟨wr.heap.size, 0, none⟩ = some (.string yn) := hbox.cell 0
      clear hbox hma k0 k1 k2
      refine (named_any yn _ (by omega)).mono ?_
      rintro e w' ⟨rfl, rfl⟩
      have hbad : ∀ (W : World), badW E ⟨yn, ysf, yb, yA, yc⟩ = true → Mod Non W0 W → LdPost R w (.returned (.tuple #[.pointer none, .int .i64 1])) W := fun W hbd hW => by
        have := loadP_stop HLG.out HXK.out hbd
        rw [← HR.out, this]
        exact ⟨1, rfl, by omega, (HM.out.trans0 HMA.out).trans0 hW⟩
      have HBAD := Lib.hid hbad
      clear hbad
      obtain ⟨nb, hnb⟩ : ∃ nb, named yn = nb := ⟨_, rfl⟩
      rw [hnb]
      have HNB := Lib.hid hnb
      clear hnb
      cases nb with
      | false =>
        go_wp2_with fail
        go_ret2
        exact HBAD.out _ (by simp [badW, HNB.out]) (Mod.refl _ _)
      | true =>
        go_wp2_with fail
        have hD0 := HD.out.mod0 HMA.out
        refine (has_any yn _ d E W0 (hD0.disk (B := w.heap.size) (fun j hj => ⟨(HG.out j hj).1, Nat.lt_of_lt_of_le (HG.out j hj).2 HMA.out.size⟩) hdw hmw hpw)).mono ?_
        rintro e W1 ⟨rfl, hq⟩
        obtain ⟨hs, hhs⟩ : ∃ hs, (findF E.files yn).isSome = hs := ⟨_, rfl⟩
        rw [hhs]
        have HHS := Lib.hid hhs
        have HQ := Lib.hid hq
        have hbx1 := HBX.out.mod hq fun h => h
        have c1 : W1.cell? ⟨wr.heap.size, 1, none⟩ = some (.int .i64 ysf) := hbx1.cell 1
        have c2 : W1.cell? ⟨wr.heap.size, 2, none⟩ = some (.slice yA yb.length yc) := hbx1.cell 2
        clear hhs hq hD0
        cases hs with
        | true =>
          clear hbx1
          go_wp2_with fail
          go_ret2
          exact HBAD.out _ (by simp [badW, HHS.out]) HQ.out
        | false =>
          by_cases hs1 : ysf < 0
          · clear hbx1
            go_wp2_with fail
            go_ret2
            exact HBAD.out _ (by simp [badW, hs1]) HQ.out
          · by_cases hs2 : (yb.length : Int) < ysf
            · clear hbx1
              go_wp2_with fail
              go_ret2
              exact HBAD.out _ (by simp [badW, hs2]) HQ.out
            · have hnb : badW E ⟨yn, ysf, yb, yA, yc⟩ = false := by
                unfold badW
                simp only [HNB.out, HHS.out, Bool.not_true, Bool.false_or, Bool.or_eq_false_iff, decide_eq_false_iff_not]
                exact ⟨hs1, hs2⟩
              have HNBD := Lib.hid hnb
              have HBX1 := Lib.hid hbx1
              clear hnb hbx1
              go_wp2_with fail
              refine (clone_any yA yb.length yc yb _ ((HXB.out.mod0 HMA.out).mod0 HQ.out) (by omega)).mono ?_
              rintro e W2 ⟨pA, pc, rfl, pown, pb⟩
              have HM2 : Hid (Mod Non W1 W2) := Mod.of_below pb
              have hbx2 := HBX1.out.mod HM2.out fun h => h
              have POWN := Lib.hid pown
              have hs2z := HM2.out.size
              have hs1z := HQ.out.size
              have hs0z := HBX.out.lt
              obtain ⟨pA', pc', hpe, hpc, hpc2⟩ := own_slice pown
              cases hpe
              have c20 : W2.cell? ⟨wr.heap.size, 2, none⟩ = some (.slice yA yb.length yc) := hbx2.cell 2
              have f20 := hbx2.frozen 2
              have hbx3 := hbx2.set_ 2 (.slice pA yb.length pc)
              have hm3 : Mod (fun k => k = wr.heap.size) W2 (W2.setCell ⟨wr.heap.size, 2, none⟩ (.slice pA yb.length pc)) := (Mod.refl _ _).set1 2 _
              have hz3 : (W2.setCell ⟨wr.heap.size, 2, none⟩ (.slice pA yb.length pc)).heap.size = W2.heap.size := by simp
              clear pb pown hbx2 c1 c2 b0
              go_wp2_with fail
              clear c20 f20
              generalize W2.setCell ⟨wr.heap.size, 2, none⟩ (.slice pA yb.length pc) = W3 at *
              have HM3 := Lib.hid hm3
              have HBX3 := Lib.hid hbx3
              have HD3 := Lib.hid ((((HD.out.mod0 HMA.out).mod0 HQ.out).mod0 HM2.out).mod hm3 (by omega) (by omega) (fun j hj => by have := (HG.out j hj).2; omega) (by omega))
              have e0 : W3.cell? ⟨wr.heap.size, 0, none⟩ = some (.string yn) := hbx3.cell 0
              have e1 : W3.cell? ⟨wr.heap.size, 1, none⟩ = some (.int .i64 ysf) := hbx3.cell 1
              have e2 : W3.cell? ⟨wr.heap.size, 2, none⟩ = some (.slice pA yb.length pc) := hbx3.cell 2
              have g2 : W3.cell? ⟨d, 2, none⟩ = some (.map (some m)) := HD3.out.blk.cell 2
              clear hm3 hbx3
              have tok : True := trivial
              go_region_held3 (fun w' => w'.cell? ⟨d, 2, none⟩ = some (.map (some m)) ∧ w'.cell? ⟨wr.heap.size, 0, none⟩ = some (.string yn) ∧ w'.cell? ⟨wr.heap.size, 1, none⟩ = some (.int .i64 ysf) ∧ w'.cell? ⟨wr.heap.size, 2, none⟩ = some (.slice pA yb.length pc))
                (first | go_keep)
                (first
                  | (have _t := tok
                     obtain ⟨w3, hrun, hp3, hm3⟩ := MapAt.run_put (P := Tryz.prog) strKey (HD3.out.map.mod0' ((Mod.refl Non W3).drew)) Tryz.underlying77 Tryz.underlying9 yn (.agg #[.string yn, .int .i64 ysf, .slice pA yb.length pc])
                     rw [hrun]
                     clear hrun
                     have g23 := hm3.cell g2 (p := ⟨d, 2, none⟩) (fun e => HD.out.dm e)
                     have b03 := hm3.cell e0 (p := ⟨wr.heap.size, 0, none⟩) (fun e => by simp only at e; omega)
                     have b13 := hm3.cell e1 (p := ⟨wr.heap.size, 1, none⟩) (fun e => by simp only at e; omega)
                     have b23 := hm3.cell e2 (p := ⟨wr.heap.size, 2, none⟩) (fun e => by simp only at e; omega)
                     simp only [Result.andThen, Oper.upon]))
              have hm3' : Mod (fun j => j = m) W3 w3 := ((Mod.refl Non W3).drew).non.trans hm3 (fun _ h => .inl h)
              have hpo := own_base POWN.out
              have hnz := named_size HNB.out
              have hsf : ((ysf.toNat : Nat) : Int) = ysf := by omega
              have hfl3 : FlAt w3 (fun j => G j ∨ blkOf pA = some j) (yn, .agg #[.string yn, .int .i64 ysf, .slice pA yb.length pc]) ⟨yn, ysf.toNat, yb⟩ := by
                refine ⟨rfl, pA, pc, by simp only [hsf], ?_, hpc, by have : maxLen = 9223372036854775807 := rfl; omega, fun j hj => .inr hj⟩
                have r2 := (Rd.of_own POWN.out).mod HM3.out fun _ j hj e => by have := hpo j hj; omega
                exact r2.mod hm3' fun _ j hj e => by have := hpo j hj; omega
              have hD4 := HD3.out.stored (f := ⟨yn, ysf.toNat, yb⟩) (B := w1.heap.size) hp3 hm3' (fun j hj => .inl hj) hfl3 (fun j hj => hj.imp id fun h => by have := hpo j h; omega) hdl hml
              have HD4 := Lib.hid hD4
              have HM4 := Lib.hid hm3'
              have d1 : w3.cell? ⟨d, 1, none⟩ = some (.int .i64 E.used) := hD4.blk.cell 1
              have f1 := hD4.blk.frozen 1
              have hu0 : 0 ≤ E.used ∧ E.used ≤ 1099511627776 := by
                have h1 := hlok.out.used
                have h0u := hlok.out.u0
                have h2 := costW_nonneg ([] ++ fs.take k)
                have h3 := costW_append (fs.drop k) (fs.take k)
                have h4 := costW_nonneg (fs.drop k)
                rw [List.take_append_drop] at h3
                rw [List.nil_append] at h1 h2
                have := HC.out
                omega
              have q1 : IntKind.i64.wrap (E.used + (16 + (yn.size : Int) + (yb.length : Int))) = E.used + (16 + (yn.size : Int) + (yb.length : Int)) := IntWalk.i64_in _ (by omega)
              clear hD4 hm3' hfl3 hp3 hm3 g23 b13 e0 e1 e2 g2
              have HPO := Lib.hid hpo
              clear hpo
              go_wp2_with fail
              go_region_with (go_at_call 53; refine (cost_any yn yb.length _ (by omega) (by omega)).mono ?_; rintro e w' ⟨rfl, rfl⟩)
              all_goals
                go_wp2_with fail
                have hm9 : Mod Non w (w3.drew.setCell ⟨d, 1, none⟩ (.int .i64 (E.used + (16 + (yn.size : Int) + (yb.length : Int))))) :=
                  ((((((HM.out.trans0 HMA.out).trans0 HQ.out).trans0 HM2.out).trans HM3.out fun j hj => .inr (by omega)).trans HM4.out fun j hj => .inr (by omega)).drew).setCell (p := ⟨d, 1, none⟩) (.inr hdw) _
                have hD9 : DkAt (w3.drew.setCell ⟨d, 1, none⟩ (.int .i64 (E.used + (16 + (yn.size : Int) + (yb.length : Int))))) (fun j => G j ∨ blkOf pA = some j) d m (putKV kvs yn (.agg #[.string yn, .int .i64 ysf, .slice pA yb.length pc])) (addW E ⟨yn, ysf, yb, yA, yc⟩) :=
                  (HD4.out.mod0 ((Mod.refl Non _).drew)).setUsed _
                have hz9 : (w3.setCell ⟨d, 1, none⟩ (.int .i64 (E.used + (16 + (yn.size : Int) + (yb.length : Int))))).drew.heap.size = w3.heap.size := by simp [World.setCell]
                have hz4 := HM4.out.size
                have hlg9 : loadG (newD cap) (fs.take (k + 1)) = some (addW E ⟨yn, ysf, yb, yA, yc⟩) := by
                  rw [take_snoc' fs k _ HXK.out, loadG_append, HLG.out]
                  show loadG E [_] = _
                  rw [loadG, if_neg (by rw [HNBD.out]; exact Bool.noConfusion)]
                  rfl
                have hplt := POWN.out.lt
                go_roundw
                case rel =>
                  refine ⟨k + 1, _, _, _, by omega, by go_num, by omega, hD9, ?_, hlg9, hm9⟩
                  intro j hj
                  rcases hj with hj | hj
                  · exact ⟨(HG.out j hj).1, by have := (HG.out j hj).2; omega⟩
                  · exact ⟨by have := HPO.out j hj; omega, by have := (hplt j (by rw [slice_blk]; exact hj)).2; omega⟩
                case measure => simp [idxN]; omega
    · obtain rfl : k = n := by omega
      have hlg := HLG.out
      rw [List.take_of_length_le (by rw [HLEN.out]; omega)] at hlg
      have d1 : wr.cell? ⟨d, 1, none⟩ = some (.int .i64 E.used) := HD.out.blk.cell 1
      have HLG2 := Lib.hid hlg
      clear hlg
      by_cases hu : cap < E.used
      · go_wp2_with fail
        go_ret2
        rw [← HR.out, loadP_full HLG2.out hu]
        exact ⟨4, rfl, by omega, HM.out⟩
      · go_wp2_with fail
        go_ret2
        rw [← HR.out, loadP_done HLG2.out (by omega)]
        exact ⟨d, _, rfl, HD.out.disk (B := w.heap.size) HG.out hdw hmw hpw, HM.out, by rintro j (rfl | rfl | h); exact hdw; exact hmw; exact (HG.out j h).1⟩

end Go.Proofs.YtdpjnpjmokncdaaGreatDoor

/- Append of one handed-in file to a row of disk.File, inside a drawn region (law05.both). -/
namespace Go.Proofs.YtdpjnpjmokncdaaGreatDoor
open Go.RowKit

theorem flatW_one (xs : List Fw) : ∀ u ∈ flatW xs, u.oneCell' = true := by
  induction xs with
  | nil => intro u hu; cases hu
  | cons x r ih =>
    intro u hu
    rw [flatW, List.mem_append] at hu
    rcases hu with hu | hu
    · simp only [Fw.cells, List.mem_cons, List.not_mem_nil, or_false] at hu
      rcases hu with rfl | rfl | rfl <;> rfl
    · exact ih u hu
theorem one_fileW (w : World) (t : TypeId) (x : Fw) : Rd (w.alloc (.cells #[.string x.name, .int .i64 x.safe, .slice x.A x.bytes.length x.c] t)) (some ⟨w.heap.size, 0, none⟩) (1 * 3) (flatW [x]) := by
  refine ⟨rfl, fun _ => ⟨w.heap.size, 0, rfl, fun j u hu => ?_⟩⟩
  rw [Nat.zero_add, cell_of_row _ _ j _ t (0, 0) (heap_alloc_new w _)]
  match j, hu with
  | 0, hu => exact hu
  | 1, hu => exact hu
  | 2, hu => exact hu
theorem step_appW (w : World) {ops : Array Oper} {o : Oper} {a : Act} {K : Act → World → Prop} {Q : Exit → Act → World → Prop} {Z : Prop} (hgd : o.guard = none) (s x : Operand)
    (ho : o.op = .call { callee := .builtin .append, args := #[s, x], argTypes := #[55, 55] })
    (base : Nat) (v : Value) (n : Nat) (xs : List Fw) (hs : a.eval s = v) (hown : w.ownsRow base 58 3 v n (flatW xs))
    (A : Option Addr) (m c : Nat) (news : List Fw) (hx : a.eval x = .slice A m c) (hr : Rd w A (m * 3) (flatW news))
    (h63 : n + m ≤ 1000000000000) (hbase : base ≤ w.heap.size)
    (h : ∀ A' c' w', n + m ≤ c' → c' ≤ 9223372036854775807 → w'.ownsRow base 58 3 (.slice A' (n + m) c') (n + m) (flatW (xs ++ news)) → w.grownBy w' v.ownBlock → (blkOf A' = v.ownBlock ∨ blkOf A' = some w.heap.size) → K (a.put o.dst (.slice A' (n + m) c')) w') : if Region.wanted o (yielded ops a.tmps) = true then Oper.wp Tryz.prog o a w K Q else Z := by
  obtain ⟨i, z, hi, hz, hs1, hb, hzs⟩ := rowD
  have hw : Region.wanted o (yielded ops a.tmps) = true := by simp [Region.wanted, hgd]
  rw [if_pos hw]
  obtain ⟨v', w', hrun, h2, h3, h4⟩ := run_app3 (P := Tryz.prog) w base 55 o.type 58 i z 48 Tryz.underlying55 hi hz hs1 hb hzs v n (flatW xs) hown A m c (flatW news) hr (flatW_one _) (by simp only [maxLen]; omega) (by omega) hbase
  obtain ⟨A', c', rfl, hc, hcm⟩ := own_slice h2
  unfold Oper.wp execOp
  simp only [ho, resolve, invoke, builtin, Sem.run_bind, Sem.run_pure, Result.andThen_ok, List.map_toArray, List.map_cons, List.map_nil, hs, hx, hrun]
  rw [← flatW_append] at h2
  exact h A' c' w' hc (by have : maxLen = 9223372036854775807 := rfl; omega) h2 h3 (by cases A' <;> exact h4)

end Go.Proofs.YtdpjnpjmokncdaaGreatDoor
