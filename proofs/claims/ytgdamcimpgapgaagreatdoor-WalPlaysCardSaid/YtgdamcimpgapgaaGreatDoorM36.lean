/- law05.step: an operation on both disks: the same answers. -/
import Derived.Test.YtgdamcimpgapgaaGreatDoorM29
import Derived.Test.YtgdamcimpgapgaaGreatDoorM30
import Derived.Test.YtgdamcimpgapgaaGreatDoorM33
import Derived.Test.YtgdamcimpgapgaaGreatDoorM35
namespace Go.Proofs.YtgdamcimpgapgaaGreatDoor
open Go.RowKit

theorem and7 (n : Int) : bits .and .i64 n 7 = n % 8 := and_mask n 3 (by omega)

/-- one plain disk, both ways in memory, apart, behind B0. -/
structure Both (w : World) (B0 : Nat) (F : Nat → Prop) (d : Nat) (E : Nat → Prop) (r : Nat) (D : Dk) : Prop where
  dk : DiskIs w F d D
  rk : RkIs w E r D
  ok : DkOk D
  apart : ∀ k, F k → ¬ E k
  fb : ∀ k, F k → B0 ≤ k
  eb : ∀ k, E k → B0 ≤ k
  pb : powG < B0
  wb : B0 ≤ w.heap.size
theorem RkIs.er {w : World} {E : Nat → Prop} {r : Nat} {D : Dk} (h : RkIs w E r D) : E r := by
  obtain ⟨B, A, n, c, xs, h1, h2, h3, h4⟩ := h; exact h2
theorem DiskIs.flt' {w : World} {F : Nat → Prop} {d : Nat} {D : Dk} (h : DiskIs w F d D) : ∀ k, F k → k < w.heap.size := by
  obtain ⟨G, m, kvs, h1, h2, h3, h4, h5, h6⟩ := h; exact h6
section
variable {w w' w2 w4 : World} {B0 d r : Nat} {F E F2 E4 : Nat → Prop} {D D' : Dk}
theorem Both.mod0 (h : Both w B0 F d E r D) (hm : Mod Non w w') : Both w' B0 F d E r D :=
  ⟨h.dk.mod0 hm, h.rk.mod0 hm, h.ok, h.apart, h.fb, h.eb, h.pb, Nat.le_trans h.wb hm.size⟩
theorem Both.rk2 (h : Both w B0 F d E r D) (hm : Mod F w w2) : RkIs w2 E r D := h.rk.mod hm fun k hk hf => h.apart k hf hk
theorem Both.next (h : Both w B0 F d E r D) (hd : DiskIs w2 F2 d D') (hm2 : Mod F w w2) (hF2 : ∀ k, F2 k → F k ∨ w.heap.size ≤ k)
    (hr : RkIs w4 E4 r D') (hm4 : Mod (fun k => k = r) w2 w4) (hE4 : ∀ k, E4 k → E k ∨ w2.heap.size ≤ k) (ok : DkOk D') : Both w4 B0 F2 d E4 r D' ∧ Mod (fun k => B0 ≤ k) w w4 := by
  have hrE := h.rk.er
  have hrl := h.rk.elt r hrE
  have hrb := h.eb r hrE
  have hs2 := hm2.size
  have hwb := h.wb
  have hpb := h.pb
  refine ⟨⟨hd.mod hm4 (fun k hk e => ?_) (fun e => by omega), hr, ok, fun k hf he => ?_, fun k hk => ?_, fun k hk => ?_, hpb, ?_⟩, ?_⟩
  · rcases hF2 k hk with h1 | h1
    · exact h.apart k h1 (e ▸ hrE)
    · omega
  · have h3 := hd.flt' k hf
    rcases hF2 k hf with h1 | h1
    · have h4 := h.dk.flt' k h1
      rcases hE4 k he with h2 | h2
      · exact h.apart k h1 h2
      · omega
    · rcases hE4 k he with h2 | h2
      · have := h.rk.elt k h2; omega
      · omega
  · rcases hF2 k hk with h1 | h1
    · exact h.fb k h1
    · omega
  · rcases hE4 k hk with h1 | h1
    · exact h.eb k h1
    · omega
  · have := hm4.size; omega
  · exact (hm2.mono (T := fun k => B0 ≤ k) fun k hk => h.fb k hk).trans hm4 fun k hk => .inl (by show B0 ≤ k; omega)
end

/-- what step answers. -/
def StPost (B0 d r : Nat) (w : World) (e : Ending) (w' : World) : Prop :=
  e = .returned (.bool true) ∧ ∃ F' E' D', Both w' B0 F' d E' r D' ∧ Mod (fun k => B0 ≤ k) w w'

theorem cutD_ok {D : Dk} (ok : DkOk D) {x : Int} (hx : x ≤ 9223372036854775807) : DkOk (cutD D x) := by
  unfold cutD
  split
  · exact ok
  · rename_i h
    have h0 : 0 ≤ x := by omega
    exact ⟨ok.n0, ok.n1, ok.u0, ok.u1, by show -1 ≤ x; omega, hx, ok.us, ok.sf, ok.nm, ok.nd⟩
/-- what Replay answers, in one. -/
def rpE (D : Dk) (n : Int) : Int := if 0 ≤ n ∧ n ≤ 1099511627776 then (match findF D.files (nameW n) with | none => 3 | some _ => 0) else 1
def rpL (D : Dk) (n : Int) : List (List UInt8) := if 0 ≤ n ∧ n ≤ 1099511627776 then (match findF D.files (nameW n) with | none => [] | some f => replayB f.bytes) else []
theorem rp_one {D : Dk} {n : Int} {w w' : World} {e : Ending} (h : RpPost D n w e w') :
    ∃ A k c xs, e = .returned (.tuple #[.slice A k c, .int .i64 (rpE D n)]) ∧ RdS w' A k xs ∧ xs.map (·.l) = rpL D n ∧ k ≤ 9223372036854775807 ∧ Mod Non w w' := by
  unfold RpPost at h
  unfold rpE rpL
  split at h
  · rename_i hr
    rw [if_pos hr, if_pos hr]
    cases hf : findF D.files (nameW n) with
    | none =>
      rw [hf] at h
      exact ⟨none, 0, 0, [], h.1, ⟨Rd.nil _ _, by simp⟩, rfl, by omega, h.2⟩
    | some f =>
      rw [hf] at h
      obtain ⟨A, k, c, xs, rfl, h1, h2, h3⟩ := h
      exact ⟨A, k, c, xs, rfl, h1.rds, h2, Nat.le_trans h1.nc h1.cm, h3⟩
  · rename_i hr
    rw [if_neg hr, if_neg hr]
    exact ⟨none, 0, 0, [], h.1, ⟨Rd.nil _ _, by simp⟩, rfl, by omega, h.2⟩
theorem dropD_ok {D : Dk} (ok : DkOk D) (n : Int) : DkOk (dropD D n) := by
  unfold dropD
  split
  · exact removeD_ok ok _
  · exact ok

/-- the operation among the arguments. -/
structure OpArg (w : World) (B0 : Nat) (B : Option Addr) (m : Nat) (b : List UInt8) (Q : Option Addr) (q : Nat) (picks : List Int) : Prop where
  body : Rd w B m (by8 b)
  bb : 0 < m → ∀ k, blkOf B = some k → k < B0
  picks : Rd w Q q (picks.map (Value.int .i64))
  qb : 0 < q → ∀ k, blkOf Q = some k → k < B0

theorem OpArg.mod0 {w w' : World} {B0 : Nat} {B : Option Addr} {m : Nat} {b : List UInt8} {Q : Option Addr} {q : Nat} {picks : List Int} (h : OpArg w B0 B m b Q q picks) (hm : Mod Non w w') : OpArg w' B0 B m b Q q picks :=
  ⟨h.body.mod0 hm, h.bb, h.picks.mod0 hm, h.qb⟩

set_option maxRecDepth 100000 in
set_option maxHeartbeats 4000000 in
theorem step_any (B0 : Nat) (F : Nat → Prop) (d : Nat) (E : Nat → Prop) (r : Nat) (D : Dk) (what n at_ : Int) (B : Option Addr) (m c : Nat) (b : List UInt8) (Q : Option Addr) (q cq : Nat) (picks : List Int) (w : World)
    (h : Both w B0 F d E r D) (ho : OpArg w B0 B m b Q q picks) (hm : m ≤ 140737488351232) (hq : q ≤ 9223372036854775807) (hat : at_ ≤ 9223372036854775807) :
    Calls Tryz.prog 17 #[.pointer (some ⟨d, 0, none⟩), .pointer (some ⟨r, 0, none⟩), .agg #[.int .i64 what, .int .i64 n, .int .i64 at_, .slice B m c, .slice Q q cq]] w (StPost B0 d r w) := by
  obtain ⟨x, hx⟩ : ∃ x, bits .and .i64 what 7 = x := ⟨_, rfl⟩
  have HBO := Lib.hid h
  have HOP := Lib.hid ho
  have hdl := h.dk.lt
  have hrl := h.rk.elt r h.rk.er
  have hB0 := h.wb
  clear h ho
  go_enter Tryz.func17, Tryz.ntmps17
  have hbx : Blk (w.alloc (.cells #[.int .i64 what, .int .i64 n, .int .i64 at_, .slice B m c, .slice Q q cq] 50)) w.heap.size 50 #[.int .i64 what, .int .i64 n, .int .i64 at_, .slice B m c, .slice Q q cq] := Blk.new _ _ _
  have HMA := Lib.hid ((Mod.refl Non w).alloc (.cells #[.int .i64 what, .int .i64 n, .int .i64 at_, .slice B m c, .slice Q q cq] 50))
  by_cases x2 : x = 2
  · subst x2
    go_wp2_with fail
    generalize w.alloc (.cells #[.int .i64 what, .int .i64 n, .int .i64 at_, .slice B m c, .slice Q q cq] 50) = w1 at *
    have HBX := Lib.hid hbx
    have HB1 := Lib.hid (HBO.out.mod0 HMA.out)
    have HBD := Lib.hid ((HBO.out.mod0 HMA.out).mod0 ((Mod.refl Non w1).drew))
    have hFx : Hid (¬ F w.heap.size) := fun h => by have := HBO.out.dk.flt' _ h; omega
    have hEx : Hid (¬ E w.heap.size) := fun h => by have := HBO.out.rk.elt _ h; omega
    have HOPD := Lib.hid ((HOP.out.mod0 HMA.out).mod0 ((Mod.refl Non w1).drew))
    have c1 : w1.cell? ⟨w.heap.size, 1, none⟩ = some (.int .i64 n) := HBX.out.cell 1
    clear hbx
    obtain ⟨ev, hev⟩ : ∃ ev, rpE D n = ev := ⟨_, rfl⟩
    have HEV := Lib.hid hev
    clear hev
    refine (replay_any F d D n _ HB1.out.dk HB1.out.ok).mono ?_
    intro e w2 hp2
    obtain ⟨A1, k1, e1, xs, rfl, hs1, hl1, hk1, hm2⟩ := rp_one hp2
    rw [HEV.out]
    have HS1 := Lib.hid hs1
    have HL1 := Lib.hid hl1
    have HM2 := Lib.hid hm2
    have HB2 := Lib.hid (HB1.out.mod0 hm2)
    have c1x : w2.cell? ⟨w.heap.size, 1, none⟩ = some (.int .i64 n) := hm2.cell c1 (fun h => h)
    clear hp2 hs1 hl1 hm2
    go_wp2_with fail
    refine (replayR_any E r D n _ HB2.out.rk HB2.out.ok).mono ?_
    intro e w3 hp3
    obtain ⟨A2, k2, e2, ys, rfl, hs2, hl2, hk2, hm3⟩ := rp_one hp3
    rw [HEV.out]
    have HS2 := Lib.hid hs2
    have HS1' := Lib.hid (HS1.out.mod0 hm3)
    have HLL := Lib.hid (HL1.out.trans hl2.symm)
    have HM3 := Lib.hid (HM2.out.trans0 hm3)
    have HB3 := Lib.hid (HB2.out.mod0 hm3)
    clear hp3 hs2 hl2 hm3
    go_wp2_with fail
    refine (same_any A1 A2 k1 k2 e1 e2 xs ys _ HS1'.out HS2.out hk1 hk2).mono ?_
    rw [decide_eq_true HLL.out]
    rintro e w4 ⟨rfl, hm4⟩
    have HM4 := Lib.hid (HM3.out.trans0 hm4)
    have HB4 := Lib.hid (HB3.out.mod0 hm4)
    clear hm4
    go_wp2_with fail
    go_ret
    exact ⟨rfl, F, E, D, HB4.out, (HMA.out.trans0 HM4.out).non⟩
  by_cases x3 : x = 3
  · subst x3
    go_wp2_with fail
    generalize w.alloc (.cells #[.int .i64 what, .int .i64 n, .int .i64 at_, .slice B m c, .slice Q q cq] 50) = w1 at *
    have HBX := Lib.hid hbx
    have HB1 := Lib.hid (HBO.out.mod0 HMA.out)
    have HBD := Lib.hid ((HBO.out.mod0 HMA.out).mod0 ((Mod.refl Non w1).drew))
    have hFx : Hid (¬ F w.heap.size) := fun h => by have := HBO.out.dk.flt' _ h; omega
    have hEx : Hid (¬ E w.heap.size) := fun h => by have := HBO.out.rk.elt _ h; omega
    have HOPD := Lib.hid ((HOP.out.mod0 HMA.out).mod0 ((Mod.refl Non w1).drew))
    have c1 : w1.cell? ⟨w.heap.size, 1, none⟩ = some (.int .i64 n) := HBX.out.cell 1
    clear hbx
    obtain ⟨dv, hdv⟩ : ∃ dv, dropE D n = dv := ⟨_, rfl⟩
    have HDV := Lib.hid hdv
    clear hdv
    go_region_held3 (fun w' => w'.cell? ⟨w.heap.size, 1, none⟩ = some (.int .i64 n))
      (first | exact c1 | exact c2d | go_keep)
      (first
        | (go_at_call 13
           refine (drop_any F d D n _ HBD.out.dk HBD.out.ok).mono ?_
           rintro e w2 ⟨rfl, F2, hd2, hm2, hF2⟩
           rw [HDV.out]
           have HD2 := Lib.hid hd2
           have HM2 := Lib.hid hm2
           have HF2 := Lib.hid hF2
           have c2d : w2.cell? ⟨w.heap.size, 1, none⟩ = some (.int .i64 n) := hm2.cell c1 hFx.out
           have hs2 := hm2.size
           clear hd2 hm2 hF2)
        | (go_at_call 46
           refine (dropF_any E r D n _ (HBD.out.rk2 HM2.out) HBD.out.ok).mono ?_
           rintro e w4 ⟨rfl, E4, hr4, hm4, hE4⟩
           rw [HDV.out]
           have HR4 := Lib.hid hr4
           have HM4 := Lib.hid hm4
           have HE4 := Lib.hid hE4
           have hs4 := hm4.size
           have c2d : w4.cell? ⟨w.heap.size, 1, none⟩ = some (.int .i64 n) := hm4.cell c2d (fun e => hEx.out (by have e' : w.heap.size = r := e; rw [e']; exact HB1.out.rk.er))
           clear hr4 hm4 hE4))
    all_goals
      go_wp2_with fail
      go_ret
      obtain ⟨q1, q2⟩ := HBD.out.next HD2.out HM2.out HF2.out HR4.out HM4.out HE4.out (dropD_ok HBD.out.ok n)
      exact ⟨rfl, F2, E4, _, q1, (((Mod.refl (fun k => B0 ≤ k) w).trans0 HMA.out).drew).trans q2 fun k hk => .inl hk⟩
  by_cases x4 : x = 4
  · subst x4
    go_wp2_with fail
    generalize w.alloc (.cells #[.int .i64 what, .int .i64 n, .int .i64 at_, .slice B m c, .slice Q q cq] 50) = w1 at *
    have HBX := Lib.hid hbx
    have HB1 := Lib.hid (HBO.out.mod0 HMA.out)
    have HBD := Lib.hid ((HBO.out.mod0 HMA.out).mod0 ((Mod.refl Non w1).drew))
    have hFx : Hid (¬ F w.heap.size) := fun h => by have := HBO.out.dk.flt' _ h; omega
    have hEx : Hid (¬ E w.heap.size) := fun h => by have := HBO.out.rk.elt _ h; omega
    have HOPD := Lib.hid ((HOP.out.mod0 HMA.out).mod0 ((Mod.refl Non w1).drew))
    have c2 : w1.cell? ⟨w.heap.size, 2, none⟩ = some (.int .i64 at_) := HBX.out.cell 2
    clear hbx
    obtain ⟨dv, hdv⟩ : ∃ dv, cutE at_ = dv := ⟨_, rfl⟩
    have HDV := Lib.hid hdv
    clear hdv
    go_region_held3 (fun w' => w'.cell? ⟨w.heap.size, 2, none⟩ = some (.int .i64 at_))
      (first | exact c2 | exact c2d | go_keep)
      (first
        | (go_at_call 47
           refine (cut_any F d D at_ _ HBD.out.dk).mono ?_
           rintro e w2 ⟨rfl, F2, hd2, hm2, hF2⟩
           rw [HDV.out]
           have HD2 := Lib.hid hd2
           have HM2 := Lib.hid hm2
           have HF2 := Lib.hid hF2
           have c2d : w2.cell? ⟨w.heap.size, 2, none⟩ = some (.int .i64 at_) := hm2.cell c2 hFx.out
           have hs2 := hm2.size
           clear hd2 hm2 hF2)
        | (go_at_call 48
           refine (cutR_any at_ E r D _ (HBD.out.rk2 HM2.out)).mono ?_
           rintro e w4 ⟨rfl, E4, hr4, hm4, hE4⟩
           rw [HDV.out]
           have HR4 := Lib.hid hr4
           have HM4 := Lib.hid hm4
           have HE4 := Lib.hid hE4
           have hs4 := hm4.size
           have c2d : w4.cell? ⟨w.heap.size, 2, none⟩ = some (.int .i64 at_) := hm4.cell c2d (fun e => hEx.out (by have e' : w.heap.size = r := e; rw [e']; exact HB1.out.rk.er))
           clear hr4 hm4 hE4))
    all_goals
      go_wp2_with fail
      go_ret
      obtain ⟨q1, q2⟩ := HBD.out.next HD2.out HM2.out HF2.out HR4.out HM4.out HE4.out (cutD_ok HBD.out.ok hat)
      exact ⟨rfl, F2, E4, _, q1, (((Mod.refl (fun k => B0 ≤ k) w).trans0 HMA.out).drew).trans q2 fun k hk => .inl hk⟩
  by_cases x5 : x = 5
  · subst x5
    go_wp2_with fail
    generalize w.alloc (.cells #[.int .i64 what, .int .i64 n, .int .i64 at_, .slice B m c, .slice Q q cq] 50) = w1 at *
    have HBX := Lib.hid hbx
    have HB1 := Lib.hid (HBO.out.mod0 HMA.out)
    have HBD := Lib.hid ((HBO.out.mod0 HMA.out).mod0 ((Mod.refl Non w1).drew))
    have hFx : Hid (¬ F w.heap.size) := fun h => by have := HBO.out.dk.flt' _ h; omega
    have hEx : Hid (¬ E w.heap.size) := fun h => by have := HBO.out.rk.elt _ h; omega
    have HOPD := Lib.hid ((HOP.out.mod0 HMA.out).mod0 ((Mod.refl Non w1).drew))
    have c4 : w1.cell? ⟨w.heap.size, 4, none⟩ = some (.slice Q q cq) := HBX.out.cell 4
    clear hbx
    go_region_held3 (fun w' => w'.cell? ⟨w.heap.size, 4, none⟩ = some (.slice Q q cq))
      (first | exact c4 | exact c2d | go_keep)
      (first
        | (go_at_call 49
           refine (crash_any F d D Q q cq picks _ HBD.out.dk HBD.out.ok ⟨HOPD.out.picks, fun h0 k hk hf => by have := HOPD.out.qb h0 k hk; have := HBD.out.fb k hf; omega⟩ hq).mono ?_
           rintro e w2 ⟨L, hL, rfl, F2, hd2, hm2, hF2⟩
           have HNL := Lib.hid hL
           have HD2 := Lib.hid hd2
           have HM2 := Lib.hid hm2
           have HF2 := Lib.hid hF2
           have c2d : w2.cell? ⟨w.heap.size, 4, none⟩ = some (.slice Q q cq) := hm2.cell c4 hFx.out
           have hs2 := hm2.size
           clear hd2 hm2 hF2)
        | (go_at_call 50
           refine (crashR_any E r D Q q cq picks _ (HBD.out.rk2 HM2.out) HBD.out.ok (HOPD.out.picks.mod HM2.out fun h0 k hk hf => by have := HOPD.out.qb h0 k hk; have := HBD.out.fb k hf; omega) hq).mono ?_
           rintro e w4 ⟨L2, hL2, rfl, E4, hr4, hm4, hE4⟩
           rw [← hL2.names HNL.out] at hr4
           have HR4 := Lib.hid hr4
           have HM4 := Lib.hid hm4
           have HE4 := Lib.hid hE4
           have hs4 := hm4.size
           have c2d : w4.cell? ⟨w.heap.size, 4, none⟩ = some (.slice Q q cq) := hm4.cell c2d (fun e => hEx.out (by have e' : w.heap.size = r := e; rw [e']; exact HB1.out.rk.er))
           clear hr4 hm4 hE4))
    all_goals
      go_wp2_with fail
      go_ret
      obtain ⟨q1, q2⟩ := HBD.out.next HD2.out HM2.out HF2.out HR4.out HM4.out HE4.out (crashD_ok HBD.out.ok picks _)
      exact ⟨rfl, F2, E4, _, q1, (((Mod.refl (fun k => B0 ≤ k) w).trans0 HMA.out).drew).trans q2 fun k hk => .inl hk⟩
  go_wp2_with fail
  generalize w.alloc (.cells #[.int .i64 what, .int .i64 n, .int .i64 at_, .slice B m c, .slice Q q cq] 50) = w1 at *
  have HBX := Lib.hid hbx
  have HB1 := Lib.hid (HBO.out.mod0 HMA.out)
  have HBD := Lib.hid ((HBO.out.mod0 HMA.out).mod0 ((Mod.refl Non w1).drew))
  have hFx : Hid (¬ F w.heap.size) := fun h => by have := HBO.out.dk.flt' _ h; omega
  have hEx : Hid (¬ E w.heap.size) := fun h => by have := HBO.out.rk.elt _ h; omega
  have HOPD := Lib.hid ((HOP.out.mod0 HMA.out).mod0 ((Mod.refl Non w1).drew))
  have c1 : w1.cell? ⟨w.heap.size, 1, none⟩ = some (.int .i64 n) := HBX.out.cell 1
  have c3 : w1.cell? ⟨w.heap.size, 3, none⟩ = some (.slice B m c) := HBX.out.cell 3
  clear hbx
  obtain ⟨dv, hdv⟩ : ∃ dv, needW D n b = dv := ⟨_, rfl⟩
  have HDV := Lib.hid hdv
  obtain ⟨av, hav⟩ : ∃ av, (addB D n b).2 = av := ⟨_, rfl⟩
  have HAV := Lib.hid hav
  clear hdv hav
  go_region_held3 (fun w' => w'.cell? ⟨w.heap.size, 1, none⟩ = some (.int .i64 n) ∧ w'.cell? ⟨w.heap.size, 3, none⟩ = some (.slice B m c))
    (first | exact ⟨c1, c3⟩ | exact ⟨c1x, c3x⟩ | go_keep)
    (first
      | (go_at_call 32
         refine (need_any F d D n B m c b _ HBD.out.dk HOPD.out.body hm).mono ?_
         rw [HDV.out]
         rintro e w2 ⟨rfl, hm2⟩
         have HM2 := Lib.hid hm2
         have HB2 := Lib.hid (HBD.out.mod0 hm2)
         have HO2 := Lib.hid (HOPD.out.body.mod0 hm2)
         have c1x : w2.cell? ⟨w.heap.size, 1, none⟩ = some (.int .i64 n) := hm2.cell c1 (fun h => h)
         have c3x : w2.cell? ⟨w.heap.size, 3, none⟩ = some (.slice B m c) := hm2.cell c3 (fun h => h)
         clear hm2)
      | (go_at_call 51
         refine (needR_any E r D n B m c b _ HB2.out.rk HB2.out.ok.nd HO2.out hm).mono ?_
         rw [HDV.out]
         rintro e w3 ⟨rfl, hm3⟩
         have HM3 := Lib.hid (HM2.out.trans0 hm3)
         have HB3 := Lib.hid (HB2.out.mod0 hm3)
         have HO3 := Lib.hid (HO2.out.mod0 hm3)
         have c1x : w3.cell? ⟨w.heap.size, 1, none⟩ = some (.int .i64 n) := hm3.cell c1x (fun h => h)
         have c3x : w3.cell? ⟨w.heap.size, 3, none⟩ = some (.slice B m c) := hm3.cell c3x (fun h => h)
         clear hm3)
      | (go_at_call 10
         refine (add_wal F d D n B m c b _ HB3.out.dk HB3.out.ok HO3.out (by omega)).mono ?_
         rw [HAV.out]
         rintro e w4 ⟨rfl, F2, hd4, hm4, hF4⟩
         have HD4 := Lib.hid hd4
         have HM4 := Lib.hid hm4
         have HF4 := Lib.hid hF4
         have HO4 := Lib.hid (HO3.out.mod hm4 fun h0 k hk hf => by have := HOP.out.bb h0 k hk; have := HB3.out.fb k hf; omega)
         have c1x : w4.cell? ⟨w.heap.size, 1, none⟩ = some (.int .i64 n) := hm4.cell c1x hFx.out
         have c3x : w4.cell? ⟨w.heap.size, 3, none⟩ = some (.slice B m c) := hm4.cell c3x hFx.out
         clear hd4 hm4 hF4)
      | (go_at_call 52
         refine (addR_any E r D n B m c b _ (HB3.out.rk2 HM4.out) HB3.out.ok HO4.out (by omega)).mono ?_
         rw [HAV.out]
         rintro e w5 ⟨rfl, E4, hr5, hm5, hE5⟩
         have HR5 := Lib.hid hr5
         have HM5 := Lib.hid hm5
         have HE5 := Lib.hid hE5
         have hEx2 : ¬ w.heap.size = r := fun e => hEx.out (by rw [e]; exact HB1.out.rk.er)
         have c1x : w5.cell? ⟨w.heap.size, 1, none⟩ = some (.int .i64 n) := hm5.cell c1x hEx2
         have c3x : w5.cell? ⟨w.heap.size, 3, none⟩ = some (.slice B m c) := hm5.cell c3x hEx2
         clear hr5 hm5 hE5))
  all_goals
    go_wp2_with fail
    go_ret
    obtain ⟨q1, q2⟩ := HB3.out.next HD4.out HM4.out HF4.out HR5.out HM5.out HE5.out (add_ok HB3.out.ok n b)
    exact ⟨rfl, F2, E4, _, q1, ((((Mod.refl (fun k => B0 ≤ k) w).trans0 HMA.out).drew).trans0 HM3.out).trans q2 fun k hk => .inl hk⟩

end Go.Proofs.YtgdamcimpgapgaaGreatDoor
