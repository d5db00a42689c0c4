/- law11.step: an operation on both disks: the same answers. -/
import Derived.Test.YtdpjnpjmokncdaaGreatDoorB43
import Derived.Test.YtdpjnpjmokncdaaGreatDoorB14
import Derived.Test.YtdpjnpjmokncdaaGreatDoorB31
import Derived.Test.YtdpjnpjmokncdaaGreatDoorB46
import Derived.Deep.RegionHeld3
import Derived.Test.YtdpjnpjmokncdaaGreatDoorB44
import Derived.Test.YtdpjnpjmokncdaaGreatDoorB37
namespace Go.Proofs.YtdpjnpjmokncdaaGreatDoor
open Go.RowKit

theorem and_maskC (n : Int) (j : Nat) (hj : j ≤ 62) : bits .and .i64 n ((2 ^ j - 1 : Nat) : Int) = n % ((2 ^ j : Nat) : Int) := by
  have hp : 2 ^ j ≤ 2 ^ 62 := Nat.pow_le_pow_right (by omega) hj
  have hpos : 0 < 2 ^ j := Nat.two_pow_pos j
  have hm : (BitVec.ofInt 64 ((2 ^ j - 1 : Nat) : Int)).toNat = 2 ^ j - 1 := by
    rw [BitVec.ofInt_natCast, BitVec.toNat_ofNat, Nat.mod_eq_of_lt (by omega)]
  have key : (BitVec.ofInt 64 n &&& BitVec.ofInt 64 ((2 ^ j - 1 : Nat) : Int)).toNat = (n % ((2 ^ 64 : Nat) : Int)).toNat % 2 ^ j := by
    rw [BitVec.toNat_and, BitVec.toNat_ofInt, hm, Nat.and_two_pow_sub_one_eq_mod]
  show IntKind.i64.wrap ((BitVec.ofInt 64 n &&& BitVec.ofInt 64 ((2 ^ j - 1 : Nat) : Int)).toNat : Nat) = _
  rw [key]
  have hlt : (n % ((2 ^ 64 : Nat) : Int)).toNat % 2 ^ j < 2 ^ j := Nat.mod_lt _ hpos
  rw [IntWalk.i64_in _ (by constructor <;> omega)]
  have h0 : 0 ≤ n % ((2 ^ 64 : Nat) : Int) := Int.emod_nonneg _ (by decide)
  have hd : ((2 ^ j : Nat) : Int) ∣ ((2 ^ 64 : Nat) : Int) := Int.natCast_dvd_natCast.2 (Nat.pow_dvd_pow 2 (by omega))
  rw [Int.natCast_emod, Int.toNat_of_nonneg h0, Int.emod_emod_of_dvd _ hd]
theorem VwOk.mine {w wc w3 : World} {F : Nat → Prop} {x : Vw} {A' : Option Addr} {c' : Nat} (h0 : VwOk w x) (h : VwOk w3 ⟨x.gen, x.next, x.log, x.seq, A', c', x.ms⟩) (hA : ∀ b, blkOf A' = some b → wc.heap.size ≤ b) (hF : ∀ k, F k → w.heap.size ≤ k ∧ k < wc.heap.size) :
    ∀ W, Mod F w3 W → VwOk W ⟨x.gen, x.next, x.log, x.seq, A', c', x.ms⟩ := fun W hW => by
  have key : ∀ {A : Option Addr} {n : Nat} {vs : List Value}, Rd w A n vs → 0 < n → Off F A := fun hr hn b hb hf => by
    obtain ⟨b', hb', hl⟩ := hr.lt hn
    rw [hb] at hb'
    cases hb'
    have := (hF b hf).1
    omega
  refine ⟨h.row.mod hW fun _ b hb hf => ?_, h.nc, h.cm, fun m hm => ⟨(h.ok m hm).a.mod hW (key (h0.ok m hm).a), (h.ok m hm).b.mod hW (key (h0.ok m hm).b), (h.ok m hm).a1, (h.ok m hm).b1⟩⟩
  have h1 := hA b hb
  have h2 := (hF b hf).2
  omega
theorem loadV_check {D : Dk} {v : Vs} (h : loadV D = some v) : checkV v = true := by
  unfold loadV at h
  split at h
  · cases h; decide
  · split at h
    · cases h
    · split at h
      · split at h
        · cases h
        · split at h
          · cases h
          · rename_i hd
            split at h
            · cases h; exact (decV_some hd).1
            · cases h
      · cases h
theorem and7c (n : Int) : bits .and .i64 n 7 = n % 8 := and_maskC n 3 (by omega)

/-- one plain disk, both ways in memory, apart, made behind w0. -/
structure Bq (w0 : World) (F : Nat → Prop) (d : Nat) (E : Nat → Prop) (r : Nat) (D : Dk) (w : World) : Prop where
  dk : DiskIs w F d D
  rk : RkIs w E r D
  ok : DkOk D
  apart : ∀ k, F k → ¬ E k
  fb : ∀ k, F k → w0.heap.size ≤ k
  eb : ∀ k, E k → w0.heap.size ≤ k
  mod : Mod Non w0 w
  pb : powG < w0.heap.size
theorem DiskIs.fltq {w : World} {F : Nat → Prop} {d : Nat} {D : Dk} (h : DiskIs w F d D) : ∀ k, F k → k < w.heap.size := by
  obtain ⟨_, _, _, _, _, _, _, _, h6⟩ := h; exact h6
section
variable {w0 w w' w2 w4 : World} {d r : Nat} {F E F2 E4 : Nat → Prop} {D D' : Dk}
theorem Bq.mod0 (h : Bq w0 F d E r D w) (hm : Mod Non w w') : Bq w0 F d E r D w' :=
  ⟨h.dk.mod0 hm, h.rk.mod0 hm, h.ok, h.apart, h.fb, h.eb, h.mod.trans0 hm, h.pb⟩
theorem Bq.rk2 (h : Bq w0 F d E r D w) (hm : Mod F w w2) : RkIs w2 E r D := h.rk.mod hm fun k hk hf => h.apart k hf hk
theorem Bq.m2 (h : Bq w0 F d E r D w) (hm : Mod F w w2) : Mod Non w0 w2 := h.mod.trans hm fun k hk => .inr (h.fb k hk)
theorem Bq.next (h : Bq w0 F d E r D w) (hd : DiskIs w2 F2 d D') (hm2 : Mod F w w2) (hF2 : ∀ k, F2 k → F k ∨ w.heap.size ≤ k)
    (hr : RkIs w4 E4 r D') (hm4 : Mod (fun k => k = r) w2 w4) (hE4 : ∀ k, E4 k → E k ∨ w2.heap.size ≤ k) (ok : DkOk D') : Bq w0 F2 d E4 r D' w4 := by
  have hrE := h.rk.rE
  have hrl := h.rk.elt r hrE
  have hrb := h.eb r hrE
  have hs0 := h.mod.size
  have hs2 := hm2.size
  have hpb := h.pb
  refine ⟨hd.mod hm4 (fun k hk e => ?_) (fun e => by omega), hr, ok, fun k hf he => ?_, fun k hk => ?_, fun k hk => ?_, (h.m2 hm2).trans hm4 fun k hk => .inr (by omega), hpb⟩
  · rcases hF2 k hk with h1 | h1
    · exact h.apart k h1 (e ▸ hrE)
    · omega
  · have h3 := hd.fltq k hf
    rcases hF2 k hf with h1 | h1
    · have h4 := h.dk.fltq k h1
      rcases hE4 k he with h2 | h2
      · exact h.apart k h1 h2
      · omega
    · rcases hE4 k he with h2 | h2
      · have := h.rk.elt k h2; omega
      · omega
  · rcases hF2 k hk with h1 | h1
    · exact h.fb k h1
    · omega
  · rcases hE4 k hk with h1 | h1
    · exact h.eb k h1
    · omega
end

/-- what step answers. -/
def SqPost (w0 : World) (d r : Nat) (e : Ending) (w' : World) : Prop :=
  e = .returned (.bool true) ∧ ∃ F' E' D', Bq w0 F' d E' r D' w'

/-- the version that is there, and what Load answers, in one. -/
def lvD (D : Dk) : Vs := match loadV D with
  | some v => v
  | none => zeroV
def ecD (D : Dk) : Int := match loadV D with
  | some _ => 0
  | none => 2
theorem lo_one {D : Dk} {w w' : World} {e : Ending} (h : LoPost D w e w') : ∃ y : Vw, y.v = lvD D ∧ e = .returned (.tuple #[y.val, .int .i64 (ecD D)]) ∧ VwOk w' y ∧ y.ms.length ≤ 4096 ∧ Mod Non w w' := by
  unfold LoPost at h
  unfold lvD ecD
  cases hl : loadV D with
  | none =>
    rw [hl] at h
    exact ⟨⟨0, 0, 0, 0, none, 0, []⟩, rfl, h.1, zeroVw _, by simp, h.2⟩
  | some v =>
    rw [hl] at h
    obtain ⟨y, h1, h2, h3, _, h5⟩ := h
    refine ⟨y, h1, h2, h3, ?_, h5⟩
    have := (encV_len (loadV_check hl)).2
    rw [← h1] at this
    simpa [Vw.v] using this
theorem cutD_okq {D : Dk} (ok : DkOk D) {x : Int} (hx : x ≤ 9223372036854775807) : DkOk (cutD D x) := by
  unfold cutD
  split
  · exact ok
  · rename_i h
    have h0 : 0 ≤ x := by omega
    exact ⟨ok.n0, ok.n1, ok.u0, ok.u1, by show -1 ≤ x; omega, hx, ok.us, ok.sf, ok.nm, ok.nd⟩

set_option maxRecDepth 100000 in
set_option maxHeartbeats 8000000 in
theorem stepC_any (w0 : World) (F : Nat → Prop) (d : Nat) (E : Nat → Prop) (r : Nat) (D : Dk) (what at_ : Int) (x : Vw) (Q : Option Addr) (q cq : Nat) (picks : List Int) (w : World)
    (h : Bq w0 F d E r D w) (hER : Errs w0) (hx : VwOk w0 x) (hxn : x.ms.length ≤ 100) (hp : Rd w0 Q q (picks.map (Value.int .i64))) (hq : q ≤ 9223372036854775807) (hat : at_ ≤ 9223372036854775807) :
    Calls Tryz.prog 27 #[.pointer (some ⟨d, 0, none⟩), .pointer (some ⟨r, 0, none⟩), .agg #[.int .i64 what, .int .i64 at_, .int .i64 x.gen, .int .i64 x.next, .int .i64 x.log, .int .i64 x.seq, .slice x.A x.ms.length x.c, .slice Q q cq]] w (SqPost w0 d r) := by
  obtain ⟨z, hz⟩ : ∃ z, bits .and .i64 what 7 = z := ⟨_, rfl⟩
  obtain ⟨X, hX⟩ : ∃ X, x = X := ⟨_, rfl⟩
  rw [hX] at hx
  have hXv : x.v = X.v := by rw [hX]
  have HXO := Lib.hid hx
  have HBO := Lib.hid h
  have HP := Lib.hid hp
  have HER := Lib.hid hER
  have hdl := h.dk.lt
  have hrl := h.rk.elt r h.rk.rE
  have hB0 := h.mod.size
  obtain ⟨gen, next, log, seq, A, c, ms⟩ := x
  simp only at hxn
  obtain ⟨n, hn⟩ : ∃ n, ms.length = n := ⟨_, rfl⟩
  have hXval : X.val = .agg #[.int .i64 gen, .int .i64 next, .int .i64 log, .int .i64 seq, .slice A n c] := by
    rw [← hX]
    unfold Vw.val
    simp only
    rw [hn]
  have hXms : X.ms.length ≤ 100 := by rw [← hX]; exact hxn
  have HXVAL := Lib.hid hXval
  simp only
  rw [hn]
  clear h hx hp hER hX hXv hxn hn hXval
  go_enter Tryz.func27, Tryz.ntmps27
  have hbx : Blk (w.alloc (.cells #[.int .i64 what, .int .i64 at_, .int .i64 gen, .int .i64 next, .int .i64 log, .int .i64 seq, .slice A n c, .slice Q q cq] 69)) w.heap.size 69 #[.int .i64 what, .int .i64 at_, .int .i64 gen, .int .i64 next, .int .i64 log, .int .i64 seq, .slice A n c, .slice Q q cq] := Blk.new _ _ _
  have HMA := Lib.hid ((Mod.refl Non w).alloc (.cells #[.int .i64 what, .int .i64 at_, .int .i64 gen, .int .i64 next, .int .i64 log, .int .i64 seq, .slice A n c, .slice Q q cq] 69))
  by_cases x4 : z = 4
  · subst x4
    go_wp2_with fail
    generalize w.alloc (.cells #[.int .i64 what, .int .i64 at_, .int .i64 gen, .int .i64 next, .int .i64 log, .int .i64 seq, .slice A n c, .slice Q q cq] 69) = w1 at *
    have HBX := Lib.hid hbx
    have HB1 := Lib.hid (HBO.out.mod0 HMA.out)
    have HBD := Lib.hid ((HBO.out.mod0 HMA.out).mod0 ((Mod.refl Non w1).drew))
    have hFx : Hid (¬ F w.heap.size) := fun h => by have := HBO.out.dk.fltq _ h; omega
    have hEx : Hid (¬ E w.heap.size) := fun h => by have := HBO.out.rk.elt _ h; omega
    have c2 : w1.cell? ⟨w.heap.size, 1, none⟩ = some (.int .i64 at_) := HBX.out.cell 1
    clear hbx
    obtain ⟨dv, hdv⟩ : ∃ dv, cutE at_ = dv := ⟨_, rfl⟩
    have HDV := Lib.hid hdv
    clear hdv
    go_region_held3 (fun w' => w'.cell? ⟨w.heap.size, 1, none⟩ = some (.int .i64 at_))
      (first | exact c2 | exact c2d | go_keep)
      (first
        | (go_at_call 19
           refine (cut_any F d D at_ _ HBD.out.dk).mono ?_
           rintro e w2 ⟨rfl, F2, hd2, hm2, hF2⟩
           rw [HDV.out]
           have HD2 := Lib.hid hd2
           have HM2 := Lib.hid hm2
           have HF2 := Lib.hid hF2
           have c2d : w2.cell? ⟨w.heap.size, 1, none⟩ = some (.int .i64 at_) := hm2.cell c2 hFx.out
           have hs2 := hm2.size
           clear hd2 hm2 hF2)
        | (go_at_call 69
           refine (cutR_any at_ E r D _ (HBD.out.rk2 HM2.out)).mono ?_
           rintro e w4 ⟨rfl, E4, hr4, hm4, hE4⟩
           rw [HDV.out]
           have HR4 := Lib.hid hr4
           have HM4 := Lib.hid hm4
           have HE4 := Lib.hid hE4
           have hs4 := hm4.size
           have c2d : w4.cell? ⟨w.heap.size, 1, none⟩ = some (.int .i64 at_) := hm4.cell c2d (fun e => hEx.out (by have e' : w.heap.size = r := e; rw [e']; exact HB1.out.rk.rE))
           clear hr4 hm4 hE4))
    all_goals
      go_wp2_with fail
      go_ret
      exact ⟨rfl, F2, E4, _, HBD.out.next HD2.out HM2.out HF2.out HR4.out HM4.out HE4.out (cutD_okq HBD.out.ok hat)⟩
  by_cases x5 : z = 5
  · subst x5
    go_wp2_with fail
    generalize w.alloc (.cells #[.int .i64 what, .int .i64 at_, .int .i64 gen, .int .i64 next, .int .i64 log, .int .i64 seq, .slice A n c, .slice Q q cq] 69) = w1 at *
    have HBX := Lib.hid hbx
    have HB1 := Lib.hid (HBO.out.mod0 HMA.out)
    have HBD := Lib.hid ((HBO.out.mod0 HMA.out).mod0 ((Mod.refl Non w1).drew))
    have hFx : Hid (¬ F w.heap.size) := fun h => by have := HBO.out.dk.fltq _ h; omega
    have hEx : Hid (¬ E w.heap.size) := fun h => by have := HBO.out.rk.elt _ h; omega
    have c4 : w1.cell? ⟨w.heap.size, 7, none⟩ = some (.slice Q q cq) := HBX.out.cell 7
    have HQB : Hid (0 < q → ∀ k, blkOf Q = some k → k < w0.heap.size) := fun h0 k hk => by
      obtain ⟨k', hk', hl⟩ := HP.out.lt h0
      rw [hk] at hk'
      cases hk'
      exact hl
    clear hbx
    go_region_held3 (fun w' => w'.cell? ⟨w.heap.size, 7, none⟩ = some (.slice Q q cq))
      (first | exact c4 | exact c2d | go_keep)
      (first
        | (go_at_call 18
           refine (crash_any F d D Q q cq picks _ HBD.out.dk HBD.out.ok ⟨HP.out.mod0 HBD.out.mod, fun h0 k hk hf => by have := HQB.out h0 k hk; have := HBD.out.fb k hf; omega⟩ hq).mono ?_
           rintro e w2 ⟨L, hL, rfl, F2, hd2, hm2, hF2⟩
           have HNL := Lib.hid hL
           have HD2 := Lib.hid hd2
           have HM2 := Lib.hid hm2
           have HF2 := Lib.hid hF2
           have c2d : w2.cell? ⟨w.heap.size, 7, none⟩ = some (.slice Q q cq) := hm2.cell c4 hFx.out
           have hs2 := hm2.size
           clear hd2 hm2 hF2)
        | (go_at_call 70
           refine (crashR_any E r D Q q cq picks _ (HBD.out.rk2 HM2.out) HBD.out.ok (HP.out.mod0 (HBD.out.m2 HM2.out)) hq).mono ?_
           rintro e w4 ⟨L2, hL2, rfl, E4, hr4, hm4, hE4⟩
           rw [← hL2.names HNL.out] at hr4
           have HR4 := Lib.hid hr4
           have HM4 := Lib.hid hm4
           have HE4 := Lib.hid hE4
           have hs4 := hm4.size
           have c2d : w4.cell? ⟨w.heap.size, 7, none⟩ = some (.slice Q q cq) := hm4.cell c2d (fun e => hEx.out (by have e' : w.heap.size = r := e; rw [e']; exact HB1.out.rk.rE))
           clear hr4 hm4 hE4))
    all_goals
      go_wp2_with fail
      go_ret
      exact ⟨rfl, F2, E4, _, HBD.out.next HD2.out HM2.out HF2.out HR4.out HM4.out HE4.out (crashD_ok HBD.out.ok picks _)⟩
  by_cases x3 : z = 3
  · subst x3
    go_wp2_with fail
    generalize w.alloc (.cells #[.int .i64 what, .int .i64 at_, .int .i64 gen, .int .i64 next, .int .i64 log, .int .i64 seq, .slice A n c, .slice Q q cq] 69) = w1 at *
    have HBX := Lib.hid hbx
    have HB1 := Lib.hid (HBO.out.mod0 HMA.out)
    have HBD := Lib.hid ((HBO.out.mod0 HMA.out).mod0 ((Mod.refl Non w1).drew))
    have hFx : Hid (¬ F w.heap.size) := fun h => by have := HBO.out.dk.fltq _ h; omega
    have hEx : Hid (¬ E w.heap.size) := fun h => by have := HBO.out.rk.elt _ h; omega
    have HKE : Hid (∀ W, Blk W w.heap.size 69 #[.int .i64 what, .int .i64 at_, .int .i64 gen, .int .i64 next, .int .i64 log, .int .i64 seq, .slice A n c, .slice Q q cq] → W.cell? ⟨w.heap.size, 2, none⟩ = some (.int .i64 gen) ∧ W.cell? ⟨w.heap.size, 3, none⟩ = some (.int .i64 next) ∧ W.cell? ⟨w.heap.size, 4, none⟩ = some (.int .i64 log) ∧ W.cell? ⟨w.heap.size, 5, none⟩ = some (.int .i64 seq) ∧ W.cell? ⟨w.heap.size, 6, none⟩ = some (.slice A n c)) := fun W hW => ⟨hW.cell 2, hW.cell 3, hW.cell 4, hW.cell 5, hW.cell 6⟩
    have HBXD : Hid (Blk w1.drew w.heap.size 69 #[.int .i64 what, .int .i64 at_, .int .i64 gen, .int .i64 next, .int .i64 log, .int .i64 seq, .slice A n c, .slice Q q cq]) := HBX.out.drew
    have hke := HKE.out _ HBXD.out
    obtain ⟨dv, hdv⟩ : ∃ dv, (cleanD D X.v).2 = dv := ⟨_, rfl⟩
    have HDV := Lib.hid hdv
    clear hbx hdv
    go_region_held3 (fun w' => w'.cell? ⟨w.heap.size, 2, none⟩ = some (.int .i64 gen) ∧ w'.cell? ⟨w.heap.size, 3, none⟩ = some (.int .i64 next) ∧ w'.cell? ⟨w.heap.size, 4, none⟩ = some (.int .i64 log) ∧ w'.cell? ⟨w.heap.size, 5, none⟩ = some (.int .i64 seq) ∧ w'.cell? ⟨w.heap.size, 6, none⟩ = some (.slice A n c))
      (first | exact hke | go_keep)
      (first
        | (go_at_call 12
           (try rw [← HXVAL.out])
           refine (mine_any X _ (HXO.out.mod0 HBD.out.mod) (by omega)).mono ?_
           rintro e w2 ⟨A2, c2, rfl, hk2, hA2, hm2⟩
           have HB2 := Lib.hid (HBD.out.mod0 hm2)
           have HBX2 := Lib.hid (HBXD.out.mod hm2 fun h => h)
           have hke := HKE.out _ HBX2.out
           have HMI := Lib.hid (VwOk.mine (wc := w1.drew) (F := F) HXO.out hk2 hA2 fun k hk => ⟨HBD.out.fb k hk, HBD.out.dk.fltq k hk⟩)
           clear hk2 hA2 hm2)
        | (go_at_call 20
           refine (clean_any F d D ⟨X.gen, X.next, X.log, X.seq, A2, c2, X.ms⟩ w2 HB2.out.dk HB2.out.ok HMI.out (fun w' hm => HER.out.mod0 (HB2.out.m2 hm))).mono ?_
           rintro e w3 ⟨rfl, F2, hd2, hm2, hF2⟩
           have hv2 : Vw.v ⟨X.gen, X.next, X.log, X.seq, A2, c2, X.ms⟩ = X.v := rfl
           rw [hv2] at hd2 ⊢
           rw [HDV.out]
           have HD2 := Lib.hid hd2
           have HM2 := Lib.hid hm2
           have HF2 := Lib.hid hF2
           have HBX3 := Lib.hid (HBX2.out.mod hm2 hFx.out)
           have hke := HKE.out _ HBX3.out
           have hs2 := hm2.size
           clear hd2 hm2 hF2)
        | (go_at_call 68
           (try rw [← HXVAL.out])
           refine (cleanR_any E r D X w3 (HB2.out.rk2 HM2.out) HB2.out.ok (HXO.out.mod0 (HB2.out.m2 HM2.out))).mono ?_
           rintro e w4 ⟨rfl, E4, hr4, hm4, hE4⟩
           rw [HDV.out]
           have HR4 := Lib.hid hr4
           have HM4 := Lib.hid hm4
           have HE4 := Lib.hid hE4
           have HBX4 := Lib.hid (HBX3.out.mod hm4 (fun e => hEx.out (by have e' : w.heap.size = r := e; rw [e']; exact HB1.out.rk.rE)))
           have hke := HKE.out _ HBX4.out
           clear hr4 hm4 hE4))
    all_goals
      go_wp2_with fail
      go_ret
      exact ⟨rfl, F2, E4, _, HB2.out.next HD2.out HM2.out HF2.out HR4.out HM4.out HE4.out (cleanD_ok HB2.out.ok X.v)⟩
  by_cases x2 : z = 2
  · subst x2
    go_wp2_with fail
    generalize w.alloc (.cells #[.int .i64 what, .int .i64 at_, .int .i64 gen, .int .i64 next, .int .i64 log, .int .i64 seq, .slice A n c, .slice Q q cq] 69) = w1 at *
    have HB1 := Lib.hid (HBO.out.mod0 HMA.out)
    clear hbx
    refine (loadC_any F d D _ HB1.out.dk HB1.out.ok).mono ?_
    intro e w2 hp2
    obtain ⟨⟨yg, yn, yl, ys, yA, yc, yms⟩, hyv, rfl, hyo, hyl, hm2⟩ := lo_one hp2
    unfold Vw.val
    simp only at hyl ⊢
    obtain ⟨ym, hym⟩ : ∃ ym, yms.length = ym := ⟨_, rfl⟩
    rw [hym] at hyl ⊢
    obtain ⟨ec, hec⟩ : ∃ ec, ecD D = ec := ⟨_, rfl⟩
    rw [hec]
    have hm3 : Mod Non w2 (w2.alloc (.cells #[.int .i64 yg, .int .i64 yn, .int .i64 yl, .int .i64 ys, .slice yA ym yc] 34)) := (Mod.refl Non w2).alloc _
    have hb3 : Blk (w2.alloc (.cells #[.int .i64 yg, .int .i64 yn, .int .i64 yl, .int .i64 ys, .slice yA ym yc] 34)) w2.heap.size 34 #[.int .i64 yg, .int .i64 yn, .int .i64 yl, .int .i64 ys, .slice yA ym yc] := Blk.new _ _ _
    have HYV := Lib.hid hyv
    have HYO := Lib.hid hyo
    have HYM := Lib.hid hym
    have HM3 := Lib.hid hm3
    have HBK3 := Lib.hid hb3
    have HB3 := Lib.hid ((HB1.out.mod0 hm2).mod0 hm3)
    have hs3 : w2.heap.size < (w2.alloc (.cells #[.int .i64 yg, .int .i64 yn, .int .i64 yl, .int .i64 ys, .slice yA ym yc] 34)).heap.size := hb3.lt
    clear hp2 hyv hyo hm2 hm3 hb3 hym
    go_wp2_with fail
    generalize w2.alloc (.cells #[.int .i64 yg, .int .i64 yn, .int .i64 yl, .int .i64 ys, .slice yA ym yc] 34) = w3 at *
    refine (loadQ_any E r D w3 HB3.out.rk HB3.out.ok).mono ?_
    intro e w4 hp4
    obtain ⟨⟨ug, un, ul, us, uA, uc, ums⟩, huv, rfl, huo, hul, hm4⟩ := lo_one hp4
    unfold Vw.val
    simp only at hul ⊢
    obtain ⟨um, hum⟩ : ∃ um, ums.length = um := ⟨_, rfl⟩
    rw [hum] at hul ⊢
    rw [hec]
    have hm5 : Mod Non w4 (w4.alloc (.cells #[.int .i64 ug, .int .i64 un, .int .i64 ul, .int .i64 us, .slice uA um uc] 30)) := (Mod.refl Non w4).alloc _
    have hb5 : Blk (w4.alloc (.cells #[.int .i64 ug, .int .i64 un, .int .i64 ul, .int .i64 us, .slice uA um uc] 30)) w4.heap.size 30 #[.int .i64 ug, .int .i64 un, .int .i64 ul, .int .i64 us, .slice uA um uc] := Blk.new _ _ _
    have HUV := Lib.hid huv
    have HUO := Lib.hid (huo.mod0 hm5)
    have HUM := Lib.hid hum
    have HBK5 := Lib.hid hb5
    have HBK35 := Lib.hid ((HBK3.out.mod hm4 fun h => h).mod hm5 fun h => h)
    have HYO5 := Lib.hid (((HYO.out.mod0 HM3.out).mod0 hm4).mod0 hm5)
    have HB5 := Lib.hid ((HB3.out.mod0 hm4).mod0 hm5)
    clear hp4 huv huo hm4 hm5 hb5 hum hec
    go_wp2_with fail
    generalize w4.alloc (.cells #[.int .i64 ug, .int .i64 un, .int .i64 ul, .int .i64 us, .slice uA um uc] 30) = w5 at *
    have HKE : Hid (∀ W, Mod Non w5 W → (W.cell? ⟨w2.heap.size, 0, none⟩ = some (.int .i64 yg) ∧ W.cell? ⟨w2.heap.size, 1, none⟩ = some (.int .i64 yn) ∧ W.cell? ⟨w2.heap.size, 2, none⟩ = some (.int .i64 yl) ∧ W.cell? ⟨w2.heap.size, 3, none⟩ = some (.int .i64 ys) ∧ W.cell? ⟨w2.heap.size, 4, none⟩ = some (.slice yA ym yc)) ∧
        (W.cell? ⟨w4.heap.size, 0, none⟩ = some (.int .i64 ug) ∧ W.cell? ⟨w4.heap.size, 1, none⟩ = some (.int .i64 un) ∧ W.cell? ⟨w4.heap.size, 2, none⟩ = some (.int .i64 ul) ∧ W.cell? ⟨w4.heap.size, 3, none⟩ = some (.int .i64 us) ∧ W.cell? ⟨w4.heap.size, 4, none⟩ = some (.slice uA um uc))) := fun W hW => by
      have h1 := HBK35.out.mod hW fun h => h
      have h2 := HBK5.out.mod hW fun h => h
      exact ⟨⟨h1.cell 0, h1.cell 1, h1.cell 2, h1.cell 3, h1.cell 4⟩, h2.cell 0, h2.cell 1, h2.cell 2, h2.cell 3, h2.cell 4⟩
    have HD5 := Lib.hid ((Mod.refl Non w5).drew)
    have hke := HKE.out _ HD5.out
    have hth : ∀ W, Mod Non w5 W → Calls Tryz.prog 15 #[.agg #[.int .i64 yg, .int .i64 yn, .int .i64 yl, .int .i64 ys, .slice yA ym yc]] W fun e w' => ∃ A' c', e = .returned (.agg #[.int .i64 yg, .int .i64 yn, .int .i64 yl, .int .i64 ys, .slice A' ym c']) ∧ VwOk w' ⟨yg, yn, yl, ys, A', c', yms⟩ ∧ Mod Non W w' := fun W hW => by
      have := theirs_any ⟨yg, yn, yl, ys, yA, yc, yms⟩ W (HYO5.out.mod0 hW) (by simp only; rw [HYM.out]; omega)
      unfold Vw.val at this
      simp only at this
      rw [HYM.out] at this
      exact this.mono fun e w' ⟨A', c', h1, h2, _, h4⟩ => ⟨A', c', h1, h2, h4⟩
    have hsa : ∀ W A' c', VwOk W ⟨yg, yn, yl, ys, A', c', yms⟩ → Mod Non w5 W → Calls Tryz.prog 14 #[.agg #[.int .i64 yg, .int .i64 yn, .int .i64 yl, .int .i64 ys, .slice A' ym c'], .agg #[.int .i64 ug, .int .i64 un, .int .i64 ul, .int .i64 us, .slice uA um uc]] W fun e w' => e = .returned (.bool true) ∧ Mod Non W w' := fun W A' c' h1 h2 => by
      have := sameVs_any ⟨yg, yn, yl, ys, A', c', yms⟩ ⟨ug, un, ul, us, uA, uc, ums⟩ W h1 (HUO.out.mod0 h2)
      unfold Vw.val at this
      simp only at this
      rw [HYM.out, HUM.out, decide_eq_true (show Vw.v ⟨yg, yn, yl, ys, A', c', yms⟩ = Vw.v ⟨ug, un, ul, us, uA, uc, ums⟩ from HYV.out.trans HUV.out.symm)] at this
      exact this
    have HTH := Lib.hid hth
    have HSA := Lib.hid hsa
    clear hth hsa
    go_region_held3 (fun w' => (w'.cell? ⟨w2.heap.size, 0, none⟩ = some (.int .i64 yg) ∧ w'.cell? ⟨w2.heap.size, 1, none⟩ = some (.int .i64 yn) ∧ w'.cell? ⟨w2.heap.size, 2, none⟩ = some (.int .i64 yl) ∧ w'.cell? ⟨w2.heap.size, 3, none⟩ = some (.int .i64 ys) ∧ w'.cell? ⟨w2.heap.size, 4, none⟩ = some (.slice yA ym yc)) ∧
        (w'.cell? ⟨w4.heap.size, 0, none⟩ = some (.int .i64 ug) ∧ w'.cell? ⟨w4.heap.size, 1, none⟩ = some (.int .i64 un) ∧ w'.cell? ⟨w4.heap.size, 2, none⟩ = some (.int .i64 ul) ∧ w'.cell? ⟨w4.heap.size, 3, none⟩ = some (.int .i64 us) ∧ w'.cell? ⟨w4.heap.size, 4, none⟩ = some (.slice uA um uc)))
      (first | exact hke | go_keep)
      (first
        | (go_at_call 15
           refine (HTH.out _ HD5.out).mono ?_
           rintro e w6 ⟨A6, c6, rfl, hk6, hm6⟩
           have HK6 := Lib.hid hk6
           have HM6 := Lib.hid (HD5.out.trans0 hm6)
           have hke := HKE.out _ HM6.out
           clear hk6 hm6)
        | (go_at_call 14
           refine (HSA.out _ _ _ HK6.out HM6.out).mono ?_
           rintro e w7 ⟨rfl, hm7⟩
           have HM7 := Lib.hid (HM6.out.trans0 hm7)
           have hke := HKE.out _ HM7.out
           clear hm7))
    all_goals
      go_wp2_with fail
      go_ret
      exact ⟨rfl, F, E, D, HB5.out.mod0 HM7.out⟩
  go_wp2_with fail
  generalize w.alloc (.cells #[.int .i64 what, .int .i64 at_, .int .i64 gen, .int .i64 next, .int .i64 log, .int .i64 seq, .slice A n c, .slice Q q cq] 69) = w1 at *
  have HBX := Lib.hid hbx
  have HB1 := Lib.hid (HBO.out.mod0 HMA.out)
  have HBD := Lib.hid ((HBO.out.mod0 HMA.out).mod0 ((Mod.refl Non w1).drew))
  have hFx : Hid (¬ F w.heap.size) := fun h => by have := HBO.out.dk.fltq _ h; omega
  have hEx : Hid (¬ E w.heap.size) := fun h => by have := HBO.out.rk.elt _ h; omega
  have HKE : Hid (∀ W, Blk W w.heap.size 69 #[.int .i64 what, .int .i64 at_, .int .i64 gen, .int .i64 next, .int .i64 log, .int .i64 seq, .slice A n c, .slice Q q cq] → W.cell? ⟨w.heap.size, 2, none⟩ = some (.int .i64 gen) ∧ W.cell? ⟨w.heap.size, 3, none⟩ = some (.int .i64 next) ∧ W.cell? ⟨w.heap.size, 4, none⟩ = some (.int .i64 log) ∧ W.cell? ⟨w.heap.size, 5, none⟩ = some (.int .i64 seq) ∧ W.cell? ⟨w.heap.size, 6, none⟩ = some (.slice A n c)) := fun W hW => ⟨hW.cell 2, hW.cell 3, hW.cell 4, hW.cell 5, hW.cell 6⟩
  have HBXD : Hid (Blk w1.drew w.heap.size 69 #[.int .i64 what, .int .i64 at_, .int .i64 gen, .int .i64 next, .int .i64 log, .int .i64 seq, .slice A n c, .slice Q q cq]) := HBX.out.drew
  have hke := HKE.out _ HBXD.out
  obtain ⟨dv, hdv⟩ : ∃ dv, (saveD D X.v).2 = dv := ⟨_, rfl⟩
  have HDV := Lib.hid hdv
  obtain ⟨nv, hnv⟩ : ∃ nv, needC X.v = nv := ⟨_, rfl⟩
  have HNV := Lib.hid hnv
  clear hbx hdv hnv
  go_region_held3 (fun w' => w'.cell? ⟨w.heap.size, 2, none⟩ = some (.int .i64 gen) ∧ w'.cell? ⟨w.heap.size, 3, none⟩ = some (.int .i64 next) ∧ w'.cell? ⟨w.heap.size, 4, none⟩ = some (.int .i64 log) ∧ w'.cell? ⟨w.heap.size, 5, none⟩ = some (.int .i64 seq) ∧ w'.cell? ⟨w.heap.size, 6, none⟩ = some (.slice A n c))
    (first | exact hke | go_keep)
    (first
      | (go_at_call 12
         (try rw [← HXVAL.out])
         refine (mine_any X _ (HXO.out.mod0 HB4.out.mod) (by omega)).mono ?_
         rintro e w5 ⟨A5, c5, rfl, hk5, hA5, hm5⟩
         have HB5 := Lib.hid (HB4.out.mod0 hm5)
         have HBX5 := Lib.hid (HBX4.out.mod hm5 fun h => h)
         have hke := HKE.out _ HBX5.out
         have HK5 := Lib.hid hk5
         clear hk5 hA5 hm5)
      | (go_at_call 12
         (try rw [← HXVAL.out])
         refine (mine_any X _ (HXO.out.mod0 HBD.out.mod) (by omega)).mono ?_
         rintro e w2 ⟨A2, c2, rfl, hk2, hA2, hm2⟩
         have HB2 := Lib.hid (HBD.out.mod0 hm2)
         have HBX2 := Lib.hid (HBXD.out.mod hm2 fun h => h)
         have hke := HKE.out _ HBX2.out
         have HK2 := Lib.hid hk2
         clear hk2 hA2 hm2)
      | (go_at_call 35
         refine (needC_any _ ⟨X.gen, X.next, X.log, X.seq, A2, c2, X.ms⟩ w2 HK2.out HB2.out.dk.lay).mono ?_
         rintro e w3 ⟨rfl, hm3⟩
         have hv2 : Vw.v ⟨X.gen, X.next, X.log, X.seq, A2, c2, X.ms⟩ = X.v := rfl
         rw [hv2, HNV.out]
         have HB3 := Lib.hid (HB2.out.mod0 hm3)
         have HBX3 := Lib.hid (HBX2.out.mod hm3 fun h => h)
         have hke := HKE.out _ HBX3.out
         clear hm3)
      | (go_at_call 71
         (try rw [← HXVAL.out])
         refine (needR_any X w3 (HXO.out.mod0 HB3.out.mod)).mono ?_
         rintro e w4 ⟨rfl, hm4⟩
         rw [HNV.out]
         have HB4 := Lib.hid (HB3.out.mod0 hm4)
         have HBX4 := Lib.hid (HBX3.out.mod hm4 fun h => h)
         have hke := HKE.out _ HBX4.out
         clear hm4)
      | (go_at_call 11
         refine (save_any F d D ⟨X.gen, X.next, X.log, X.seq, A5, c5, X.ms⟩ w5 HB5.out.dk HB5.out.ok HK5.out (fun w' hm => HER.out.mod0 (HB5.out.m2 hm))).mono ?_
         rintro e w6 ⟨rfl, F2, hd2, hm2, hF2⟩
         have hv5 : Vw.v ⟨X.gen, X.next, X.log, X.seq, A5, c5, X.ms⟩ = X.v := rfl
         rw [hv5] at hd2 ⊢
         rw [HDV.out]
         have HD2 := Lib.hid hd2
         have HM2 := Lib.hid hm2
         have HF2 := Lib.hid hF2
         have HBX6 := Lib.hid (HBX5.out.mod hm2 hFx.out)
         have hke := HKE.out _ HBX6.out
         have hs2 := hm2.size
         clear hd2 hm2 hF2)
      | (go_at_call 72
         (try rw [← HXVAL.out])
         refine (saveR_any E r D X w6 (HB5.out.rk2 HM2.out) HB5.out.ok (HXO.out.mod0 (HB5.out.m2 HM2.out))).mono ?_
         rintro e w7 ⟨rfl, E4, hr4, hm4, hE4⟩
         rw [HDV.out]
         have HR4 := Lib.hid hr4
         have HM4 := Lib.hid hm4
         have HE4 := Lib.hid hE4
         have HBX7 := Lib.hid (HBX6.out.mod hm4 (fun e => hEx.out (by have e' : w.heap.size = r := e; rw [e']; exact HB1.out.rk.rE)))
         have hke := HKE.out _ HBX7.out
         clear hr4 hm4 hE4))
  all_goals
    go_wp2_with fail
    go_ret
    exact ⟨rfl, F2, E4, _, HB5.out.next HD2.out HM2.out HF2.out HR4.out HM4.out HE4.out (saveD_ok HB5.out.ok X.v)⟩

end Go.Proofs.YtdpjnpjmokncdaaGreatDoor

/- cat.Load, cat.Save on no disk. -/
namespace Go.Proofs.YtdpjnpjmokncdaaGreatDoor
open Go.RowKit

set_option maxRecDepth 100000 in
set_option maxHeartbeats 1000000 in
theorem loadC_nil (w : World) : Calls Tryz.prog 13 #[.pointer none] w fun e w' => e = .returned (.tuple #[.agg #[.int .i64 0, .int .i64 0, .int .i64 0, .int .i64 0, .slice none 0 0], .int .i64 1]) ∧ Mod Non w w' := by
  have hm0 : Mod Non w (w.alloc (.cells #[.int .i64 0, .int .i64 0, .int .i64 0, .int .i64 0, .slice none 0 0] 34)) := (Mod.refl Non w).alloc _
  have hz0 : Blk (w.alloc (.cells #[.int .i64 0, .int .i64 0, .int .i64 0, .int .i64 0, .slice none 0 0] 34)) w.heap.size 34 #[.int .i64 0, .int .i64 0, .int .i64 0, .int .i64 0, .slice none 0 0] := Blk.new _ _ _
  have HZ := Lib.hid hz0
  have HM0 := Lib.hid hm0
  clear hm0
  go_enter Tryz.func13, Tryz.ntmps13
  go_wp2_with fail
  refine (noneC_nil _).mono ?_
  rintro e w1 ⟨rfl, rfl⟩
  generalize w.alloc (.cells #[.int .i64 0, .int .i64 0, .int .i64 0, .int .i64 0, .slice none 0 0] 34) = w2 at *
  have y00 : w2.cell? ⟨w.heap.size, 0, none⟩ = some (.int .i64 0) := HZ.out.cell 0
  have f0 := HZ.out.frozen 0
  have y01 : w2.cell? ⟨w.heap.size, 1, none⟩ = some (.int .i64 0) := HZ.out.cell 1
  have f1 := HZ.out.frozen 1
  have y02 : w2.cell? ⟨w.heap.size, 2, none⟩ = some (.int .i64 0) := HZ.out.cell 2
  have f2 := HZ.out.frozen 2
  have y03 : w2.cell? ⟨w.heap.size, 3, none⟩ = some (.int .i64 0) := HZ.out.cell 3
  have f3 := HZ.out.frozen 3
  have y04 : w2.cell? ⟨w.heap.size, 4, none⟩ = some (.slice none 0 0) := HZ.out.cell 4
  have f4 := HZ.out.frozen 4
  clear hz0
  go_wp2_with fail
  refine bodyPost_ret (results_rowtmp rfl _ _ w.heap.size 34 _ _ rfl (HZ.out.five _ _ _ _ _) Tryz.underlying34 rfl (by kernel_rfl) (.int .i64 1) rfl) rfl ?_
  exact ⟨rfl, set5 HM0.out _ _ _ _ _⟩

set_option maxRecDepth 100000 in
set_option maxHeartbeats 1000000 in
theorem saveC_nil (gen next log seq : Int) (A : Option Addr) (n c : Nat) (w : World) : Calls Tryz.prog 11 #[.pointer none, .agg #[.int .i64 gen, .int .i64 next, .int .i64 log, .int .i64 seq, .slice A n c]] w fun e w' => e = .returned (.int .i64 1) ∧ Mod Non w w' := by
  go_enter Tryz.func11, Tryz.ntmps11
  go_wp2_with (go_at_call 32; refine (noneC_nil _).mono ?_; rintro e w1 ⟨rfl, rfl⟩)
  go_ret
  exact ⟨rfl, (Mod.refl _ _).alloc _⟩

end Go.Proofs.YtdpjnpjmokncdaaGreatDoor
