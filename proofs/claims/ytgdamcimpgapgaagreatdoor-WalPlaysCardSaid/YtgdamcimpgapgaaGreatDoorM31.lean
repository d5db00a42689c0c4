/- disk: Cut, Crash. -/
import Derived.Test.YtgdamcimpgapgaaGreatDoorM23
import Derived.Test.YtgdamcimpgapgaaGreatDoorM15
import Derived.Laws.BitsLemmas
import Derived.Deep.RegionHeld3
namespace Go.Proofs.YtgdamcimpgapgaaGreatDoor
open Go.RowKit

def cutE (ops : Int) : Int := if ops < 0 then 1 else 0
def cutD (D : Dk) (ops : Int) : Dk := if ops < 0 ∨ D.off = true then D else { D with left := ops }

set_option maxRecDepth 100000 in
set_option maxHeartbeats 800000 in
theorem cut_any (F : Nat → Prop) (d : Nat) (D : Dk) (ops : Int) (w : World) (h : DiskIs w F d D) :
    Calls Tryz.prog 47 #[.pointer (some ⟨d, 0, none⟩), .int .i64 ops] w (DkPost F d (cutD D ops) (.int .i64 (cutE ops)) w) := by
  have HH := Lib.hid h
  obtain ⟨G, m, kvs, hA, hFd, hFm, hGF, hFp, hFl⟩ := h
  have c2 : w.cell? ⟨d, 2, none⟩ = some (.map (some m)) := hA.blk.cell 2
  have c4 : w.cell? ⟨d, 4, none⟩ = some (.int .i64 D.left) := hA.blk.cell 4
  have c5 : w.cell? ⟨d, 5, none⟩ = some (.bool D.off) := hA.blk.cell 5
  have f4 := hA.blk.frozen 4
  have HA := Lib.hid hA
  clear hA
  by_cases ho : ops < 0
  · have H1 : Hid (cutD D ops = D ∧ cutE ops = 1) := ⟨by unfold cutD; rw [if_pos (.inl ho)], by unfold cutE; rw [if_pos ho]⟩
    rw [H1.out.1, H1.out.2]
    go_enter Tryz.func47, Tryz.ntmps47
    go_wp2_with (go_at_call 25; refine (made_yes d m _ c2).mono ?_; rintro e w' ⟨rfl, rfl⟩)
    go_ret
    exact ⟨rfl, F, HH.out, Mod.refl _ _, fun k hk => .inl hk⟩
  · have H2 : Hid (cutE ops = 0) := by show cutE ops = 0; unfold cutE; rw [if_neg ho]
    rw [H2.out]
    have ho' : 0 ≤ ops := by omega
    clear ho
    cases hoff : D.off with
    | true =>
      have H1 : Hid (cutD D ops = D) := by show cutD D ops = D; unfold cutD; rw [if_pos (.inr hoff)]
      rw [H1.out]
      rw [hoff] at c5
      clear hoff
      go_enter Tryz.func47, Tryz.ntmps47
      go_wp2_with (go_at_call 25; refine (made_yes d m _ c2).mono ?_; rintro e w' ⟨rfl, rfl⟩)
      go_ret
      exact ⟨rfl, F, HH.out, Mod.refl _ _, fun k hk => .inl hk⟩
    | false =>
      have H1 : Hid (cutD D ops = { D with left := ops }) := by show cutD D ops = _; unfold cutD; rw [if_neg (by rw [hoff]; simp; omega)]
      rw [H1.out]
      rw [hoff] at c5
      clear hoff
      go_enter Tryz.func47, Tryz.ntmps47
      go_wp2_with (go_at_call 25; refine (made_yes d m _ c2).mono ?_; rintro e w' ⟨rfl, rfl⟩)
      go_ret
      exact ⟨rfl, dk_fin (HA.out.setLeft ops) hFd hFm hFp hFl (fun k hk => .inl (hGF k hk)) ((Mod.refl F w).setCell (p := ⟨d, 4, none⟩) (.inl hFd) _) HA.out.lay.lt⟩

/-- how much of a file a crash leaves. -/
def keepC (f : Fl) (p : Option Int) : Nat := match p with
  | none => f.safe
  | some v => f.safe + (v % 18446744073709551616).toNat % (f.bytes.length - f.safe + 1)
def crash1 (D : Dk) (nm : ByteArray) (p : Option Int) : Dk := match findF D.files nm with
  | none => D
  | some f => { D with used := D.used - ((f.bytes.length : Int) - keepC f p), files := putF D.files ⟨nm, keepC f p, f.bytes.take (keepC f p)⟩ }
def crashL (picks : List Int) : Nat → List ByteArray → Dk → Dk
  | _, [], D => D
  | k, nm :: r, D => crashL picks (k + 1) r (crash1 D nm picks[k]?)
def crashD (D : Dk) (picks : List Int) (L : List ByteArray) : Dk := { crashL picks 0 L D with off := false, left := -1 }

theorem crashL_snoc (picks : List Int) (x : ByteArray) : ∀ (L : List ByteArray) (k : Nat) (D : Dk), crashL picks k (L ++ [x]) D = crash1 (crashL picks k L D) x picks[k + L.length]?
  | [], k, D => rfl
  | a :: L, k, D => by
    rw [List.cons_append, crashL, crashL_snoc picks x L (k + 1), crashL]
    simp only [List.length_cons]
    rw [show k + 1 + L.length = k + (L.length + 1) by omega]
theorem keepC_le {f : Fl} (h : f.safe ≤ f.bytes.length) (p : Option Int) : f.safe ≤ keepC f p ∧ keepC f p ≤ f.bytes.length := by
  unfold keepC
  split
  · omega
  · rename_i v
    have := Nat.mod_lt (v % 18446744073709551616).toNat (show 0 < f.bytes.length - f.safe + 1 by omega)
    omega
theorem crash1_ok {D : Dk} (ok : DkOk D) (nm : ByteArray) (p : Option Int) : DkOk (crash1 D nm p) := by
  unfold crash1
  split
  · exact ok
  · rename_i f hf
    have hm := findF_mem hf
    have hs := ok.sf f hm
    have hfn := find_name hf
    obtain ⟨h1, h2⟩ := keepC_le hs p
    have hc := find_cost hf
    have hu := ok.us
    have u1 := ok.u1
    have hused : usedF (putF D.files ⟨nm, keepC f p, f.bytes.take (keepC f p)⟩) = D.used - ((f.bytes.length : Int) - keepC f p) := by
      rw [usedF_put_has ⟨nm, keepC f p, f.bytes.take (keepC f p)⟩ hf, hu]
      simp only [costF, hfn, List.length_take]
      omega
    have hpos : ∀ l : List Fl, 0 ≤ usedF l := fun l => by
      induction l with
      | nil => simp [usedF]
      | cons a l ih => simp only [usedF, costF]; omega
    refine ⟨ok.n0, ok.n1, by simp only; rw [← hused]; exact hpos _, by simp only; omega, ok.l0, ok.l1, hused, ?_, ?_, nodup_put _ ok.nd⟩
    · intro g hg
      rcases mem_put hg with rfl | hg
      · simp; omega
      · exact ok.sf g hg
    · intro g hg
      rcases mem_put hg with rfl | hg
      · have := ok.nm f hm; rwa [hfn] at this
      · exact ok.nm g hg
theorem crashL_ok (picks : List Int) : ∀ (L : List ByteArray) (k : Nat) {D : Dk}, DkOk D → DkOk (crashL picks k L D)
  | [], _, _, ok => ok
  | _ :: L, k, _, ok => crashL_ok picks L (k + 1) (crash1_ok ok _ _)
theorem crashD_ok {D : Dk} (ok : DkOk D) (picks : List Int) (L : List ByteArray) : DkOk (crashD D picks L) := by
  have h := crashL_ok picks L 0 ok
  exact ⟨h.n0, h.n1, h.u0, h.u1, by simp [crashD], by simp [crashD], h.us, h.sf, h.nm, h.nd⟩
theorem crash1_names (D : Dk) (nm : ByteArray) (p : Option Int) : (crash1 D nm p).files.map (·.name) = D.files.map (·.name) := by
  unfold crash1
  split
  · rfl
  · rename_i f hf
    exact names_put_has ⟨nm, keepC f p, f.bytes.take (keepC f p)⟩ hf
theorem crashL_names (picks : List Int) : ∀ (L : List ByteArray) (k : Nat) (D : Dk), (crashL picks k L D).files.map (·.name) = D.files.map (·.name)
  | [], _, _ => rfl
  | _ :: L, k, _ => by rw [crashL, crashL_names picks L (k + 1), crash1_names]
theorem findF_of_name {nm : ByteArray} : ∀ {fs : List Fl}, nm ∈ fs.map (·.name) → ∃ f, findF fs nm = some f
  | [], h => by cases h
  | g :: r, h => by
    rw [findF]
    split
    · exact ⟨g, rfl⟩
    · rename_i hn
      rw [List.map_cons] at h
      rcases List.mem_cons.1 h with h | h
      · exact absurd h.symm hn
      · exact findF_of_name h
theorem names_mem {D : Dk} {L : List ByteArray} (h : NamesAre D L) : ∀ nm ∈ L, nm ∈ D.files.map (·.name) := by
  obtain ⟨ss, hp, rfl⟩ := h
  intro nm hn
  obtain ⟨l, hl, rfl⟩ := List.mem_map.1 hn
  have h1 := (List.mem_mergeSort.1 hl)
  have h2 := hp.mem_iff.1 h1
  obtain ⟨f, hf, he⟩ := List.mem_map.1 h2
  exact List.mem_map.2 ⟨f, hf, by rw [← he]⟩

end Go.Proofs.YtgdamcimpgapgaaGreatDoor

/- disk: Crash, the walk. -/
namespace Go.Proofs.YtgdamcimpgapgaaGreatDoor
open Go.RowKit

def idxN (v : Value) : Nat := match v with
  | .int _ n => n.toNat
  | _ => 0

theorem keep_num (v : Int) (fs fl : Nat) (h : fs ≤ fl) (hl : fl ≤ 1099511627776) :
    wrap64 ((fs : Int) + wrap64 ((IntKind.u64.wrap v).tmod ((fl : Int) - fs + 1))) = ((fs + (v % 18446744073709551616).toNat % (fl - fs + 1) : Nat) : Int) := by
  rw [IntKind.wrap_u64]
  have h0 : 0 ≤ v % 18446744073709551616 := Int.emod_nonneg _ (by omega)
  obtain ⟨a, ha⟩ := Int.eq_ofNat_of_zero_le h0
  rw [ha]
  have e : (fl : Int) - fs + 1 = ((fl - fs + 1 : Nat) : Int) := by omega
  rw [e, Int.toNat_natCast, ← Int.ofNat_tmod]
  have hlt := Nat.mod_lt a (show 0 < fl - fs + 1 by omega)
  have e2 : wrap64 ((a % (fl - fs + 1) : Nat) : Int) = ((a % (fl - fs + 1) : Nat) : Int) := by unfold wrap64; omega
  rw [e2]
  unfold wrap64
  omega

set_option maxRecDepth 100000 in
set_option maxHeartbeats 2000000 in
theorem crash_any (F : Nat → Prop) (d : Nat) (D : Dk) (A : Option Addr) (n c : Nat) (picks : List Int) (w : World) (h : DiskIs w F d D) (ok : DkOk D) (hp : RdO w F A n (picks.map (Value.int .i64))) (hn : n ≤ 9223372036854775807) :
    Calls Tryz.prog 49 #[.pointer (some ⟨d, 0, none⟩), .slice A n c] w fun e w' => ∃ L, NamesAre D L ∧ DkPost F d (crashD D picks L) (.int .i64 0) w e w' := by
  have HH := Lib.hid h
  obtain ⟨G, m, kvs, hA, hFd, hFm, hGF, hFp, hFl⟩ := h
  have c2 : w.cell? ⟨d, 2, none⟩ = some (.map (some m)) := hA.blk.cell 2
  have HM := Lib.hid (made_yes d m w c2)
  have HA := Lib.hid hA
  have HO := Lib.hid ok
  have HPK := Lib.hid hp
  have hpl : picks.length = n := by simpa using hp.1.1
  have HPL := Lib.hid hpl
  have hdl := hA.blk.lt
  have hml := hA.map.lt
  clear hA ok hp hpl c2
  go_enter Tryz.func49, Tryz.ntmps49
  go_wp2_with (first
    | (go_at_call 25; refine HM.out.mono ?_; rintro e w' ⟨rfl, rfl⟩)
    | (go_at_call 37; refine (names_any F d D _ HH.out HO.out).mono ?_; rintro e w1 ⟨An, nn, cn, L, rfl, hL, hr1, hnn, hcn, hbn, hb1⟩))
  have HL := Lib.hid hL
  have hm1 : Mod Non w w1 := Mod.of_below hb1
  have HM1 := Lib.hid hm1
  have hll : L.length = nn := by simpa using hr1.1
  have HLL := Lib.hid hll
  have HR1 := Lib.hid hr1
  have hs1 := hm1.size
  clear hL hb1 hll hr1 hm1
  go_loopw [15] (fun i wr => ∃ (j : Nat) (kvs' : List (ByteArray × Value)), j ≤ nn ∧ i = .int .i64 j ∧ Hid (DkAt wr G d m kvs' (crashL picks 0 (L.take j) D)) ∧ Hid (Mod (fun k => k = d ∨ k = m) w1 wr)) (fun i _ => nn - idxN i)
  case atStart => exact ⟨0, kvs, Nat.zero_le _, rfl, HA.out.mod0 HM1.out, Mod.refl _ _⟩
  case round =>
    obtain ⟨j, kvs', hj, rfl, HD, HMr⟩ := hrel
    by_cases hlt : j < nn
    · have hrr : Rd wr An nn (L.map Value.string) := HR1.out.mod HMr.out fun _ b hb => by
        have := hbn b hb
        rintro (h | h) <;> omega
      obtain ⟨b, o, rfl, u, hu, hc⟩ := hrr.at_ hlt
      rw [List.getElem?_map] at hu
      cases hx : L[j]? with
      | none => rw [hx] at hu; cases hu
      | some nm =>
        rw [hx] at hu
        simp only [Option.map_some, Option.some.injEq] at hu
        subst hu
        have hmem : nm ∈ (crashL picks 0 (L.take j) D).files.map (·.name) := by
          rw [crashL_names]
          exact names_mem HL.out nm (List.mem_of_getElem? hx)
        obtain ⟨f, hf⟩ := findF_of_name hmem
        have hokj := crashL_ok picks (L.take j) 0 HO.out
        have hsn : Hid (crashL picks 0 (L.take (j + 1)) D = crash1 (crashL picks 0 (L.take j) D) nm picks[j]?) := by
          show _ = _
          rw [take_snoc' L j nm hx, crashL_snoc]
          simp only [List.length_take]
          rw [show 0 + min j L.length = j by rw [HLL.out]; omega]
        obtain ⟨Dj, hDj⟩ : ∃ Dj, crashL picks 0 (L.take j) D = Dj := ⟨_, rfl⟩
        rw [hDj] at hf hokj hsn HD
        obtain ⟨Af, cf, hg, hrf, hcf1, hcf2, hfG, hfn⟩ := found HD.out hf
        obtain ⟨hk1, hk2⟩ := keepC_le (hokj.sf _ (findF_mem hf)) picks[j]?
        have hflen : f.bytes.length ≤ 1099511627776 := by
          have hc := find_cost hf
          have h1 := hokj.us; have h2 := hokj.u1; have h3 := hokj.n1
          unfold costF at hc
          omega
        have hget : (lookKV kvs' nm).getD (.agg #[.string ⟨#[]⟩, .int .i64 0, .slice none 0 0]) = .agg #[.string nm, .int .i64 (f.safe : Int), .slice Af f.bytes.length cf] := by
          unfold gotten at hg
          injection hg with hg
          have := congrArg (fun a : Array Value => a[0]?) hg
          simpa using this
        have HV := Lib.hid hget
        clear hget
        have HHF := Lib.hid hf
        have HRF := Lib.hid hrf
        have HOK := Lib.hid hokj
        have c2r : wr.cell? ⟨d, 2, none⟩ = some (.map (some m)) := HD.out.blk.cell 2
        have hszr := HMr.out.size
        clear hg hf hrf hokj hx hmem hDj hrr
        obtain ⟨fl, hfl⟩ : ∃ fl, f.bytes.length = fl := ⟨_, rfl⟩
        obtain ⟨fs, hfs⟩ : ∃ fs, f.safe = fs := ⟨_, rfl⟩
        rw [hfl] at hk2 hflen hcf1 HRF HV
        rw [hfs] at hk1 HV
        have HFL := Lib.hid hfl
        have HFS := Lib.hid hfs
        clear hfl hfs
        have hpick : Hid (keepC f picks[j]? = match picks[j]? with
          | none => fs
          | some v => fs + (v % 18446744073709551616).toNat % (fl - fs + 1)) := by
          show _ = _
          unfold keepC
          rw [HFL.out, HFS.out]
          all_goals (cases picks[j]? <;> rfl)
        by_cases hpk : j < n
        · have hrp : Rd wr A n (picks.map (Value.int .i64)) := (HPK.out.1.mod0 HM1.out).mod HMr.out fun hn0 pb hb => by
            have := HPK.out.2 hn0 pb hb
            rintro (h | h)
            · exact this (h ▸ hFd)
            · exact this (h ▸ hFm)
          obtain ⟨pb, po, rfl, pu, hpu, hpc⟩ := hrp.at_ hpk
          rw [List.getElem?_map] at hpu
          cases hpx : picks[j]? with
          | none => rw [hpx] at hpu; cases hpu
          | some v =>
            rw [hpx] at hpu hpick hk1 hk2 hsn
            simp only [Option.map_some, Option.some.injEq] at hpu
            subst hpu
            have hkp : Hid (keepC f (some v) = fs + (v % 18446744073709551616).toNat % (fl - fs + 1)) := hpick.out
            clear hrp hpx hpick
            go_wp2_with (first
              | (at_lookup; refine wpList_look _ rfl (.tmp 23) (.tmp 24) false rfl strKey HD.out.map Tryz.underlying61 Tryz.underlying9 (zeroFile _) nm rfl rfl _ HV.out ?_))
            have hbox : Blk (wr.alloc (.cells #[.string nm, .int .i64 (fs : Int), .slice Af fl cf] 69)) wr.heap.size 69 #[.string nm, .int .i64 (fs : Int), .slice Af fl cf] := Blk.new _ _ _
            have hma : Mod Non wr (wr.alloc (.cells #[.string nm, .int .i64 (fs : Int), .slice Af fl cf] 69)) := (Mod.refl Non wr).alloc _
            have hD0 := HD.out.mod0 hma
            generalize wr.alloc (.cells #[.string nm, .int .i64 (fs : Int), .slice Af fl cf] 69) = W0 at *
            have HD0 := Lib.hid hD0
            have HBX := Lib.hid hbox
            have HMA := Lib.hid hma
            have b0 : W0.cell? ⟨wr.heap.size, 0, none⟩ = some (.string nm) := hbox.cell 0
            have b1 : W0.cell? ⟨wr.heap.size, 1, none⟩ = some (.int .i64 (fs : Int)) := hbox.cell 1
            have b2 : W0.cell? ⟨wr.heap.size, 2, none⟩ = some (.slice Af fl cf) := hbox.cell 2
            have hs0 : wr.heap.size < W0.heap.size := hbox.lt
            clear hD0 hbox hma

            have pc : W0.cell? ⟨pb, po + j, none⟩ = some (.int .i64 v) := HMA.out.cell hpc fun h => h
            go_quiet (fail)
            rw [keep_num v fs fl (by omega) hflen, ← hkp.out]
            have hW9 : Mod Non W0 (W0.drewN nq) := (Mod.refl Non W0).drewN nq
            have hbx9 := HBX.out.mod hW9 fun h => h
            have hd9 := HD0.out.mod0 hW9
            have hm9 := HMA.out.trans0 hW9
            clear pc b0 b1 b2 hs0 HBX HD0 hW9 HMA
            generalize W0.drewN nq = W9 at *
            generalize hkpe : keepC f (some v) = kp at *
            have HKP := Lib.hid hkpe
            clear hkpe
            have HD9 := Lib.hid hd9
            have HM9 := Lib.hid hm9
            have HBX9 := Lib.hid hbx9
            have b1 : W9.cell? ⟨wr.heap.size, 1, none⟩ = some (.int .i64 (fs : Int)) := hbx9.cell 1
            have b2 : W9.cell? ⟨wr.heap.size, 2, none⟩ = some (.slice Af fl cf) := hbx9.cell 2
            have d1 : W9.cell? ⟨d, 1, none⟩ = some (.int .i64 Dj.used) := hd9.blk.cell 1
            have d2 : W9.cell? ⟨d, 2, none⟩ = some (.map (some m)) := hd9.blk.cell 2
            have f1 := hd9.blk.frozen 1
            have hu0 := HOK.out.u0
            have hu1 := HOK.out.u1
            have hn1 := HOK.out.n1
            have hcost : (fl : Int) ≤ Dj.used := by
              have hc := find_cost HHF.out
              have := HOK.out.us
              unfold costF at hc
              rw [HFL.out] at hc
              omega
            have q1 : IntKind.i64.wrap ((fl : Int) - (kp : Int)) = (fl : Int) - kp := IntWalk.i64_in _ (by omega)
            have q2 : IntKind.i64.wrap (Dj.used - ((fl : Int) - (kp : Int))) = Dj.used - ((fl : Int) - kp) := IntWalk.i64_in _ (by omega)
            clear hd9 hbx9 hm9
            have hnd : wr.heap.size ≠ d := by omega
            go_wp2_with fail
            go_region
            have hm10 : Mod (fun k => k = d) W9 (W9.setCell ⟨d, 1, none⟩ (.int .i64 (Dj.used - ((fl : Int) - (kp : Int))))).drew := ((Mod.refl _ _).set1 1 _).drew
            have hd10 := ((HD9.out.setUsed (Dj.used - ((fl : Int) - (kp : Int)))).mod0 ((Mod.refl Non _).drew))
            have hbx10 := HBX9.out.mod hm10 hnd
            generalize (W9.setCell ⟨d, 1, none⟩ (.int .i64 (Dj.used - ((fl : Int) - (kp : Int))))).drew = W10 at *
            have HD10 := Lib.hid hd10
            have HM10 := Lib.hid hm10
            have HBX10 := Lib.hid hbx10
            have e2 : W10.cell? ⟨wr.heap.size, 2, none⟩ = some (.slice Af fl cf) := hbx10.cell 2
            have e3 : W10.cell? ⟨d, 2, none⟩ = some (.map (some m)) := hd10.blk.cell 2
            have i1 : (kp : Int) ≤ (cf : Int) := by omega
            have i2 : (0 : Int) ≤ (kp : Int) := by omega
            have i3 : (kp : Int) ≤ (fl : Int) := by omega
            have hnm : wr.heap.size ≠ m := by omega
            have hmd := HD10.out.dm
            clear q1 q2 b1 b2 d1 d2 f1 hd10 hbx10 hm10 HBX9
            go_wp2_with fail
            have tok : True := trivial
            go_region_held3 (fun w' => w'.cell? ⟨d, 2, none⟩ = some (.map (some m)) ∧ w'.cell? ⟨wr.heap.size, 2, none⟩ = some (.slice Af fl cf))
              (first | go_keep)
              (first
                | (have _t := tok
                   obtain ⟨w3, hrun, hp3, hm3⟩ := MapAt.run_put (P := Tryz.prog) strKey (HD10.out.map.mod0' ((Mod.refl Non W10).drew)) Tryz.underlying61 Tryz.underlying9 nm (.agg #[.string nm, .int .i64 (kp : Int), .slice Af kp kp])
                   rw [hrun]
                   clear hrun
                   have c23 := hm3.cell e3 (p := ⟨d, 2, none⟩) (fun e => hmd e)
                   have b23 := hm3.cell e2 (p := ⟨wr.heap.size, 2, none⟩) (fun e => by simp only at e; omega)
                   simp only [Result.andThen, Oper.upon]))
            have hm3' : Mod (fun k => k = m) W10 w3 := ((Mod.refl Non W10).drew).non.trans hm3 (fun _ h => .inl h)
            have htl : (f.bytes.take kp).length = kp := by rw [List.length_take, HFL.out]; omega
            have hfl3 : FlAt w3 G (nm, .agg #[.string nm, .int .i64 (kp : Int), .slice Af kp kp]) ⟨nm, kp, f.bytes.take kp⟩ := by
              refine ⟨rfl, Af, kp, by simp only [htl], ?_, by simp only; omega, by omega, hfG⟩
              simp only [htl]
              have r1 : Rd wr Af kp (by8 (f.bytes.take kp)) := by rw [by8_take]; exact HRF.out.take (by omega)
              have r2 := (r1.mod0 HM9.out).mod HM10.out fun _ b hb e => (HD.out.gd b (hfG b hb)).1 e
              exact r2.mod hm3' fun _ b hb e => (HD.out.gd b (hfG b hb)).2 e
            have hD11 := HD10.out.stored (f := ⟨nm, kp, f.bytes.take kp⟩) (B := w.heap.size) hp3 hm3' (fun k hk => hk) hfl3 (fun k hk => .inl hk) hdl hml
            go_wp2_with fail
            go_roundw
            case rel =>
              refine ⟨j + 1, putKV kvs' nm (.agg #[.string nm, .int .i64 (kp : Int), .slice Af kp kp]), by omega, by go_num, (?_ : DkAt w3 G d m _ _), ?_⟩
              · rw [hsn.out]
                unfold crash1
                rw [HHF.out]
                simp only [HKP.out, HFL.out]
                exact hD11
              · exact ((HMr.out.trans0 HM9.out).trans HM10.out fun k hk => .inl (.inl hk)).trans hm3' fun k hk => .inl (.inr hk)
            case measure => simp [idxN]; omega
        · have hpx : picks[j]? = none := by
            rw [List.getElem?_eq_none]
            rw [HPL.out]
            omega
          rw [hpx] at hpick hk1 hk2 hsn
          have hk0 : keepC f none = fs := hpick.out
          obtain ⟨kp, hkpe⟩ : ∃ kp, keepC f none = kp := ⟨_, rfl⟩
          have HKP := Lib.hid hkpe
          rw [hkpe] at hk1 hk2
          obtain rfl : kp = fs := by omega
          clear hpick hpx hk0 hkpe
          have hpk' : (n : Int) ≤ (j : Int) := by omega
          go_wp2_with (first
            | (at_lookup; refine wpList_look _ rfl (.tmp 23) (.tmp 24) false rfl strKey HD.out.map Tryz.underlying61 Tryz.underlying9 (zeroFile _) nm rfl rfl _ HV.out ?_))
          have hbox : Blk (wr.alloc (.cells #[.string nm, .int .i64 (kp : Int), .slice Af fl cf] 69)) wr.heap.size 69 #[.string nm, .int .i64 (kp : Int), .slice Af fl cf] := Blk.new _ _ _
          have hma : Mod Non wr (wr.alloc (.cells #[.string nm, .int .i64 (kp : Int), .slice Af fl cf] 69)) := (Mod.refl Non wr).alloc _
          have hD0 := HD.out.mod0 hma
          generalize wr.alloc (.cells #[.string nm, .int .i64 (kp : Int), .slice Af fl cf] 69) = W9 at *
          have HD0 := Lib.hid hD0
          have HBX := Lib.hid hbox
          have HMA := Lib.hid hma
          have b0 : W9.cell? ⟨wr.heap.size, 0, none⟩ = some (.string nm) := hbox.cell 0
          have b1 : W9.cell? ⟨wr.heap.size, 1, none⟩ = some (.int .i64 (kp : Int)) := hbox.cell 1
          have b2 : W9.cell? ⟨wr.heap.size, 2, none⟩ = some (.slice Af fl cf) := hbox.cell 2
          have hs0 : wr.heap.size < W9.heap.size := hbox.lt
          clear hD0 hbox hma

          have hbx9 := HBX.out
          have hd9 := HD0.out
          have hm9 := HMA.out
          clear b0 b1 b2 hs0 HBX HD0 HMA
          have HD9 := Lib.hid hd9
          have HM9 := Lib.hid hm9
          have HBX9 := Lib.hid hbx9
          have b1 : W9.cell? ⟨wr.heap.size, 1, none⟩ = some (.int .i64 (kp : Int)) := hbx9.cell 1
          have b2 : W9.cell? ⟨wr.heap.size, 2, none⟩ = some (.slice Af fl cf) := hbx9.cell 2
          have d1 : W9.cell? ⟨d, 1, none⟩ = some (.int .i64 Dj.used) := hd9.blk.cell 1
          have d2 : W9.cell? ⟨d, 2, none⟩ = some (.map (some m)) := hd9.blk.cell 2
          have f1 := hd9.blk.frozen 1
          have hu0 := HOK.out.u0
          have hu1 := HOK.out.u1
          have hn1 := HOK.out.n1
          have hcost : (fl : Int) ≤ Dj.used := by
            have hc := find_cost HHF.out
            have := HOK.out.us
            unfold costF at hc
            rw [HFL.out] at hc
            omega
          have q1 : IntKind.i64.wrap ((fl : Int) - (kp : Int)) = (fl : Int) - kp := IntWalk.i64_in _ (by omega)
          have q2 : IntKind.i64.wrap (Dj.used - ((fl : Int) - (kp : Int))) = Dj.used - ((fl : Int) - kp) := IntWalk.i64_in _ (by omega)
          clear hd9 hbx9 hm9
          have hnd : wr.heap.size ≠ d := by omega
          go_wp2_with fail
          go_region
          have hm10 : Mod (fun k => k = d) W9 (W9.setCell ⟨d, 1, none⟩ (.int .i64 (Dj.used - ((fl : Int) - (kp : Int))))).drew := ((Mod.refl _ _).set1 1 _).drew
          have hd10 := ((HD9.out.setUsed (Dj.used - ((fl : Int) - (kp : Int)))).mod0 ((Mod.refl Non _).drew))
          have hbx10 := HBX9.out.mod hm10 hnd
          generalize (W9.setCell ⟨d, 1, none⟩ (.int .i64 (Dj.used - ((fl : Int) - (kp : Int))))).drew = W10 at *
          have HD10 := Lib.hid hd10
          have HM10 := Lib.hid hm10
          have HBX10 := Lib.hid hbx10
          have e2 : W10.cell? ⟨wr.heap.size, 2, none⟩ = some (.slice Af fl cf) := hbx10.cell 2
          have e3 : W10.cell? ⟨d, 2, none⟩ = some (.map (some m)) := hd10.blk.cell 2
          have i1 : (kp : Int) ≤ (cf : Int) := by omega
          have i2 : (0 : Int) ≤ (kp : Int) := by omega
          have i3 : (kp : Int) ≤ (fl : Int) := by omega
          have hnm : wr.heap.size ≠ m := by omega
          have hmd := HD10.out.dm
          clear q1 q2 b1 b2 d1 d2 f1 hd10 hbx10 hm10 HBX9
          go_wp2_with fail
          have tok : True := trivial
          go_region_held3 (fun w' => w'.cell? ⟨d, 2, none⟩ = some (.map (some m)) ∧ w'.cell? ⟨wr.heap.size, 2, none⟩ = some (.slice Af fl cf))
            (first | go_keep)
            (first
              | (have _t := tok
                 obtain ⟨w3, hrun, hp3, hm3⟩ := MapAt.run_put (P := Tryz.prog) strKey (HD10.out.map.mod0' ((Mod.refl Non W10).drew)) Tryz.underlying61 Tryz.underlying9 nm (.agg #[.string nm, .int .i64 (kp : Int), .slice Af kp kp])
                 rw [hrun]
                 clear hrun
                 have c23 := hm3.cell e3 (p := ⟨d, 2, none⟩) (fun e => hmd e)
                 have b23 := hm3.cell e2 (p := ⟨wr.heap.size, 2, none⟩) (fun e => by simp only at e; omega)
                 simp only [Result.andThen, Oper.upon]))
          have hm3' : Mod (fun k => k = m) W10 w3 := ((Mod.refl Non W10).drew).non.trans hm3 (fun _ h => .inl h)
          have htl : (f.bytes.take kp).length = kp := by rw [List.length_take, HFL.out]; omega
          have hfl3 : FlAt w3 G (nm, .agg #[.string nm, .int .i64 (kp : Int), .slice Af kp kp]) ⟨nm, kp, f.bytes.take kp⟩ := by
            refine ⟨rfl, Af, kp, by simp only [htl], ?_, by simp only; omega, by omega, hfG⟩
            simp only [htl]
            have r1 : Rd wr Af kp (by8 (f.bytes.take kp)) := by rw [by8_take]; exact HRF.out.take (by omega)
            have r2 := (r1.mod0 HM9.out).mod HM10.out fun _ b hb e => (HD.out.gd b (hfG b hb)).1 e
            exact r2.mod hm3' fun _ b hb e => (HD.out.gd b (hfG b hb)).2 e
          have hD11 := HD10.out.stored (f := ⟨nm, kp, f.bytes.take kp⟩) (B := w.heap.size) hp3 hm3' (fun k hk => hk) hfl3 (fun k hk => .inl hk) hdl hml
          go_wp2_with fail
          go_roundw
          case rel =>
            refine ⟨j + 1, putKV kvs' nm (.agg #[.string nm, .int .i64 (kp : Int), .slice Af kp kp]), by omega, by go_num, (?_ : DkAt w3 G d m _ _), ?_⟩
            · rw [hsn.out]
              unfold crash1
              rw [HHF.out]
              simp only [HKP.out, HFL.out]
              exact hD11
            · exact ((HMr.out.trans0 HM9.out).trans HM10.out fun k hk => .inl (.inl hk)).trans hm3' fun k hk => .inl (.inr hk)
          case measure => simp [idxN]; omega
    · obtain rfl : j = nn := by omega
      have hD := HD.out
      rw [List.take_of_length_le (by rw [HLL.out]; omega)] at hD
      have d4 : wr.cell? ⟨d, 4, none⟩ = some (.int .i64 (crashL picks 0 L D).left) := hD.blk.cell 4
      have d5 : wr.cell? ⟨d, 5, none⟩ = some (.bool (crashL picks 0 L D).off) := hD.blk.cell 5
      have f4 := hD.blk.frozen 4
      have f5 := hD.blk.frozen 5
      have HDD := Lib.hid hD
      clear hD
      go_wp2_with fail
      go_ret
      refine ⟨L, HL.out, rfl, dk_fin (F := F) (w := w) ((HDD.out.setOff false).setLeft (-1)) hFd hFm hFp hFl (fun k hk => .inl (hGF k hk)) ?_ HA.out.lay.lt⟩
      refine ((((Mod.refl F w).trans0 HM1.out).trans HMr.out fun k hk => .inl ?_).setCell (p := ⟨d, 5, none⟩) (.inl hFd) _).setCell (p := ⟨d, 4, none⟩) (.inl hFd) _
      rcases hk with rfl | rfl
      · exact hFd
      · exact hFm

end Go.Proofs.YtgdamcimpgapgaaGreatDoor
