/- disk: Sync. -/
import Derived.Test.YtgdamcimpgapgaaGreatDoorDisk4
namespace Go.Proofs.YtgdamcimpgapgaaGreatDoor
open Go.RowKit

def syncE (D : Dk) (nm : ByteArray) : Int :=
  if named nm = true then if D.off = true then 5 else if (findF D.files nm).isSome = true then spendE D 0 else 3 else 1
def syncD (D : Dk) (nm : ByteArray) : Dk :=
  if named nm = true ∧ D.off = false then
    match findF D.files nm with
    | none => D
    | some f => if spendE D 0 = 0 then { spendD D 0 with files := putF D.files ⟨nm, f.bytes.length, f.bytes⟩ } else spendD D 0
  else D

set_option maxRecDepth 100000 in
set_option maxHeartbeats 800000 in
theorem sync_bad (F : Nat → Prop) (d : Nat) (D : Dk) (nm : ByteArray) (w : World) (h : DiskIs w F d D) (hs : nm.size ≤ 9223372036854775807) (E : Int)
    (hn : named nm = false ∧ E = 1 ∨ named nm = true ∧ D.off = true ∧ E = 5 ∨ named nm = true ∧ D.off = false ∧ findF D.files nm = none ∧ E = 3) :
    Calls Tryz.prog 36 #[.pointer (some ⟨d, 0, none⟩), .string nm] w (DkPost F d D (.int .i64 E) w) := by
  have HH := Lib.hid h
  have hP : ∀ w', Mod Non w w' → DkPost F d D (.int .i64 E) w (.returned (.int .i64 E)) w' := fun w' e => ⟨rfl, F, HH.out.mod0 e, e.non, fun k hk => .inl hk⟩
  obtain ⟨G, m, kvs, hA, hFd, hFm, hGF, hFp, hFl⟩ := h
  have c2 : w.cell? ⟨d, 2, none⟩ = some (.map (some m)) := hA.blk.cell 2
  have HA := Lib.hid hA
  have HP := Lib.hid hP
  clear hP
  rcases hn with ⟨hn, rfl⟩ | ⟨hn, hoff, rfl⟩ | ⟨hn, hoff, hf, rfl⟩
  · have HN := Lib.hid hn
    have HR : Hid (rightE false D = 1) := rfl
    clear hn hA
    go_enter Tryz.func36, Tryz.ntmps36
    go_wp2_with (first
      | (go_at_call 71; refine (named_any nm _ (by omega)).mono ?_; rintro e w' ⟨rfl, rfl⟩; rw [HN.out])
      | (go_at_call 70; refine (right_any false G d m kvs D _ HA.out).mono ?_; rintro e w' ⟨rfl, rfl⟩; rw [HR.out]))
    go_ret
    exact HP.out _ (Mod.refl _ _)
  · have HN := Lib.hid hn
    have HR : Hid (rightE true D = 5) := by show rightE true D = 5; simp [rightE, hoff]
    clear hn hA hoff
    go_enter Tryz.func36, Tryz.ntmps36
    go_wp2_with (first
      | (go_at_call 71; refine (named_any nm _ (by omega)).mono ?_; rintro e w' ⟨rfl, rfl⟩; rw [HN.out])
      | (go_at_call 70; refine (right_any true G d m kvs D _ HA.out).mono ?_; rintro e w' ⟨rfl, rfl⟩; rw [HR.out]))
    go_ret
    exact HP.out _ (Mod.refl _ _)
  · have HN := Lib.hid hn
    have HR : Hid (rightE true D = 0) := by show rightE true D = 0; simp [rightE, hoff]
    have HV := Lib.hid (lost hA hf)
    clear hn hA hoff hf
    go_enter Tryz.func36, Tryz.ntmps36
    go_wp2_with (first
      | (go_at_call 71; refine (named_any nm _ (by omega)).mono ?_; rintro e w' ⟨rfl, rfl⟩; rw [HN.out])
      | (go_at_call 70; refine (right_any true G d m kvs D _ HA.out).mono ?_; rintro e w' ⟨rfl, rfl⟩; rw [HR.out])
      | (at_lookup; refine wpList_look _ rfl (.tmp 20) (.tmp 21) true rfl strKey HA.out.map Tryz.underlying61 Tryz.underlying9 (zeroFile _) nm rfl rfl _ HV.out ?_))
    go_ret
    exact HP.out _ ((Mod.refl _ _).alloc _)

set_option maxRecDepth 100000 in
set_option maxHeartbeats 1000000 in
theorem sync_has (F : Nat → Prop) (d : Nat) (D : Dk) (nm : ByteArray) (f : Fl) (w : World) (h : DiskIs w F d D) (ok : DkOk D) (hs : nm.size ≤ 9223372036854775807)
    (hn : named nm = true) (hoff : D.off = false) (hf : findF D.files nm = some f) (D' : Dk) (E : Int) (hE : spendE D 0 = E)
    (hD : (if E = 0 then { spendD D 0 with files := putF D.files ⟨nm, f.bytes.length, f.bytes⟩ } else spendD D 0) = D') :
    Calls Tryz.prog 36 #[.pointer (some ⟨d, 0, none⟩), .string nm] w (DkPost F d D' (.int .i64 E) w) := by
  have HD := Lib.hid hD
  have HE := Lib.hid hE
  clear hD hE
  obtain ⟨G, m, kvs, hA, hFd, hFm, hGF, hFp, hFl⟩ := h
  obtain ⟨Af, cf, hg, hrf, hcf1, hcf2, hfG, hfn⟩ := found hA hf
  have hflen : f.bytes.length ≤ 1099511627776 := by
    have hc := find_cost hf
    have h1 := ok.us; have h2 := ok.u1; have h3 := ok.n1
    unfold costF at hc
    omega
  have HN := Lib.hid hn
  have HV := Lib.hid hg
  have HA := Lib.hid hA
  have c2 : w.cell? ⟨d, 2, none⟩ = some (.map (some m)) := hA.blk.cell 2
  have hdl := hA.blk.lt
  have hml := hA.map.lt
  have HR : Hid (rightE true D = 0) := by show rightE true D = 0; simp [rightE, hoff]
  clear hn hoff hfn hg hA hf
  go_enter Tryz.func36, Tryz.ntmps36
  go_wp2_with (first
    | (go_at_call 71; refine (named_any nm _ (by omega)).mono ?_; rintro e w' ⟨rfl, rfl⟩; rw [HN.out])
    | (go_at_call 70; refine (right_any true G d m kvs D _ HA.out).mono ?_; rintro e w' ⟨rfl, rfl⟩; rw [HR.out])
    | (at_lookup; refine wpList_look _ rfl (.tmp 20) (.tmp 21) true rfl strKey HA.out.map Tryz.underlying61 Tryz.underlying9 (zeroFile _) nm rfl rfl _ HV.out ?_))
  refine (spend_any G d m kvs D 0 _ (HA.out.mod0 ((Mod.refl Non w).alloc _)) ok (by have := ok.u0; omega)).mono ?_
  rintro e w1 ⟨rfl, hA1, hm1⟩
  rw [HE.out]
  have HA1 := Lib.hid hA1
  have HM1 := Lib.hid hm1
  have hbox : Blk w1 w.heap.size 69 #[.string nm, .int .i64 (f.safe : Int), .slice Af f.bytes.length cf] := (Blk.new w _ _).mod hm1 (by omega)
  have hsz : w.heap.size < w1.heap.size := hbox.lt
  have c21 : w1.cell? ⟨d, 2, none⟩ = some (.map (some m)) := hA1.blk.cell 2
  have b0 : w1.cell? ⟨w.heap.size, 0, none⟩ = some (.string nm) := hbox.cell 0
  have b1 : w1.cell? ⟨w.heap.size, 1, none⟩ = some (.int .i64 (f.safe : Int)) := hbox.cell 1
  have b2 : w1.cell? ⟨w.heap.size, 2, none⟩ = some (.slice Af f.bytes.length cf) := hbox.cell 2
  have f1 := hbox.frozen 1
  clear hA1 hm1 c2
  by_cases hE : E = 0
  · have HD' : Hid ({ spendD D 0 with files := putF D.files ⟨nm, f.bytes.length, f.bytes⟩ } = D') := by
      have := HD.out
      rwa [if_pos hE] at this
    subst hE
    clear HD
    have hbox2 := hbox.set_ 1 (.int .i64 (f.bytes.length : Int))
    have hm2 : Mod (fun k => k = w.heap.size) w1 (w1.setCell ⟨w.heap.size, 1, none⟩ (.int .i64 (f.bytes.length : Int))) := (Mod.refl _ _).set1 1 _
    have HM2 := Lib.hid hm2
    have hA2 := HA1.out.mod hm2 (by omega) (by omega) (fun k hk => by have := hFl k (hGF k hk); omega) (by have := HA.out.lay.lt; omega)
    have HA2 := Lib.hid hA2
    have c22 : (w1.setCell ⟨w.heap.size, 1, none⟩ (.int .i64 (f.bytes.length : Int))).cell? ⟨d, 2, none⟩ = some (.map (some m)) := hA2.blk.cell 2
    have b02 : (w1.setCell ⟨w.heap.size, 1, none⟩ (.int .i64 (f.bytes.length : Int))).cell? ⟨w.heap.size, 0, none⟩ = some (.string nm) := hbox2.cell 0
    have b12 : (w1.setCell ⟨w.heap.size, 1, none⟩ (.int .i64 (f.bytes.length : Int))).cell? ⟨w.heap.size, 1, none⟩ = some (.int .i64 (f.bytes.length : Int)) := hbox2.cell 1
    have b22 : (w1.setCell ⟨w.heap.size, 1, none⟩ (.int .i64 (f.bytes.length : Int))).cell? ⟨w.heap.size, 2, none⟩ = some (.slice Af f.bytes.length cf) := hbox2.cell 2
    have HB2 := Lib.hid hbox2
    clear hA2 hm2 hbox2
    go_wp2_with fail
    have hs2 : w1.heap.size ≤ (w1.setCell ⟨w.heap.size, 1, none⟩ (.int .i64 (f.bytes.length : Int))).heap.size := by simp
    generalize w1.setCell ⟨w.heap.size, 1, none⟩ (.int .i64 (f.bytes.length : Int)) = w2 at *
    have tok : True := trivial
    go_region_held3 (fun w' => w'.cell? ⟨d, 2, none⟩ = some (.map (some m)) ∧ w'.cell? ⟨w.heap.size, 0, none⟩ = some (.string nm) ∧ w'.cell? ⟨w.heap.size, 1, none⟩ = some (.int .i64 (f.bytes.length : Int)) ∧ w'.cell? ⟨w.heap.size, 2, none⟩ = some (.slice Af f.bytes.length cf))
      (first | go_keep)
      (first
        | (have _t := tok
           obtain ⟨w3, hrun, hp3, hm3⟩ := MapAt.run_put (P := Tryz.prog) strKey (HA2.out.map.mod0' ((Mod.refl Non w2).drew)) Tryz.underlying61 Tryz.underlying9 nm (.agg #[.string nm, .int .i64 (f.bytes.length : Int), .slice Af f.bytes.length cf])
           rw [hrun]
           clear hrun
           have c23 := hm3.cell c22 (p := ⟨d, 2, none⟩) (fun e => HA1.out.dm e)
           have b03 := hm3.cell b02 (p := ⟨w.heap.size, 0, none⟩) (fun e => by simp only at e; omega)
           have b13 := hm3.cell b12 (p := ⟨w.heap.size, 1, none⟩) (fun e => by simp only at e; omega)
           have b23 := hm3.cell b22 (p := ⟨w.heap.size, 2, none⟩) (fun e => by simp only at e; omega)
           simp only [Result.andThen, Oper.upon]))
    go_wp2_with fail
    go_ret
    have hm3' : Mod (fun i => i = m) w2 w3 := ((Mod.refl _ _).drew).trans hm3 fun _ h => .inl h
    have hfl : FlAt w3 G (nm, .agg #[.string nm, .int .i64 (f.bytes.length : Int), .slice Af f.bytes.length cf]) ⟨nm, f.bytes.length, f.bytes⟩ := by
      refine ⟨rfl, Af, cf, rfl, ?_, hcf1, hcf2, hfG⟩
      have r1 : Rd w1 Af f.bytes.length (by8 f.bytes) := (hrf.alloc _).mod HM1.out fun _ b hb e => (HA.out.gd b (hfG b hb)).1 e
      have r2 := r1.mod HM2.out fun _ b hb e => by have := hFl b (hGF b (hfG b hb)); omega
      exact r2.mod hm3' fun _ b hb e => (HA.out.gd b (hfG b hb)).2 e
    have hA3 := HA2.out.stored (f := ⟨nm, f.bytes.length, f.bytes⟩) (B := w1.heap.size) hp3 hm3' (fun k hk => hk) hfl (fun k hk => .inl hk) HA1.out.blk.lt HA1.out.map.lt
    rw [spendD_files] at hA3
    refine ⟨rfl, dk_fin (by rw [← HD'.out]; exact hA3) hFd hFm hFp hFl (fun k hk => .inl (hGF k hk)) ?_ HA.out.lay.lt⟩
    exact ((((Mod.refl F w).alloc _).trans HM1.out (fun k hk => by subst hk; exact .inl hFd)).trans HM2.out (fun k hk => by subst hk; exact .inr (Nat.le_refl _))).trans hm3' (fun k hk => by subst hk; exact .inl hFm)
  · have HD' : Hid (spendD D 0 = D') := by
      have := HD.out
      rwa [if_neg hE] at this
    have hEb : (E == 0) = false := by simp [hE]
    clear HD hE
    go_wp2_with fail
    go_ret
    refine ⟨rfl, dk_fin (by rw [← HD'.out]; exact HA1.out) hFd hFm hFp hFl (fun k hk => .inl (hGF k hk)) ?_ HA.out.lay.lt⟩
    exact ((Mod.refl F w).alloc _).trans HM1.out (fun k hk => by subst hk; exact .inl hFd)

/-- (*Disk).Sync. -/
theorem sync_any (F : Nat → Prop) (d : Nat) (D : Dk) (nm : ByteArray) (w : World) (h : DiskIs w F d D) (ok : DkOk D) (hs : nm.size ≤ 9223372036854775807) :
    Calls Tryz.prog 36 #[.pointer (some ⟨d, 0, none⟩), .string nm] w (DkPost F d (syncD D nm) (.int .i64 (syncE D nm)) w) := by
  by_cases hn : named nm = true
  · by_cases hoff : D.off = true
    · rw [show syncE D nm = 5 by simp [syncE, hn, hoff], show syncD D nm = D by simp [syncD, hoff]]
      exact sync_bad F d D nm w h hs 5 (.inr (.inl ⟨hn, hoff, rfl⟩))
    · have hoff' : D.off = false := by simpa using hoff
      cases hf : findF D.files nm with
      | none =>
        rw [show syncE D nm = 3 by simp [syncE, hn, hoff', hf], show syncD D nm = D by simp [syncD, hf]]
        exact sync_bad F d D nm w h hs 3 (.inr (.inr ⟨hn, hoff', hf, rfl⟩))
      | some f =>
        have h1 : syncE D nm = spendE D 0 := by simp [syncE, hn, hoff', hf]
        have h2 : syncD D nm = if spendE D 0 = 0 then { spendD D 0 with files := putF D.files ⟨nm, f.bytes.length, f.bytes⟩ } else spendD D 0 := by unfold syncD; rw [if_pos ⟨hn, hoff'⟩, hf]
        rw [h1, h2]
        exact sync_has F d D nm f w h ok hs hn hoff' hf _ _ rfl rfl
  · rw [show syncE D nm = 1 by unfold syncE; rw [if_neg hn], show syncD D nm = D by unfold syncD; rw [if_neg (fun h => hn h.1)]]
    exact sync_bad F d D nm w h hs 1 (.inl ⟨by simpa using hn, rfl⟩)

end Go.Proofs.YtgdamcimpgapgaaGreatDoor
