/- disk: Remove, the walk. -/
import Derived.Test.YtdpjnpjmokncdaaGreatDoorB23
namespace Go.Proofs.YtdpjnpjmokncdaaGreatDoor
open Go.RowKit

set_option maxRecDepth 100000 in
set_option maxHeartbeats 800000 in
theorem remove_bad (F : Nat → Prop) (d : Nat) (D : Dk) (nm : ByteArray) (w : World) (h : DiskIs w F d D) (hs : nm.size ≤ 9223372036854775807) (E : Int)
    (hn : named nm = false ∧ E = 1 ∨ named nm = true ∧ D.off = true ∧ E = 5 ∨ named nm = true ∧ D.off = false ∧ findF D.files nm = none ∧ E = 3) :
    Calls Tryz.prog 80 #[.pointer (some ⟨d, 0, none⟩), .string nm] w (DkPost F d D (.int .i64 E) w) := by
  have HH := Lib.hid h
  have hP : ∀ w', Mod Non w w' → DkPost F d D (.int .i64 E) w (.returned (.int .i64 E)) w' := fun w' e => ⟨rfl, F, HH.out.mod0 e, e.non, fun k hk => .inl hk⟩
  obtain ⟨G, m, kvs, hA, hFd, hFm, hGF, hFp, hFl⟩ := h
  have c2 : w.cell? ⟨d, 2, none⟩ = some (.map (some m)) := hA.blk.cell 2
  have HA := Lib.hid hA
  have HP := Lib.hid hP
  clear hP
  rcases hn with ⟨hn, rfl⟩ | ⟨hn, hoff, rfl⟩ | ⟨hn, hoff, hf, rfl⟩
  · have HN := Lib.hid hn
    have HR : Hid (rightE false D = 1) := rfl
    clear hn hA
    go_enter Tryz.func80, Tryz.ntmps80
    go_wp2_with (first
      | (go_at_call 52; refine (named_any nm _ (by omega)).mono ?_; rintro e w' ⟨rfl, rfl⟩; rw [HN.out])
      | (go_at_call 51; refine (right_any false G d m kvs D _ HA.out).mono ?_; rintro e w' ⟨rfl, rfl⟩; rw [HR.out]))
    go_ret
    exact HP.out _ (Mod.refl _ _)
  · have HN := Lib.hid hn
    have HR : Hid (rightE true D = 5) := by show rightE true D = 5; simp [rightE, hoff]
    clear hn hA hoff
    go_enter Tryz.func80, Tryz.ntmps80
    go_wp2_with (first
      | (go_at_call 52; refine (named_any nm _ (by omega)).mono ?_; rintro e w' ⟨rfl, rfl⟩; rw [HN.out])
      | (go_at_call 51; refine (right_any true G d m kvs D _ HA.out).mono ?_; rintro e w' ⟨rfl, rfl⟩; rw [HR.out]))
    go_ret
    exact HP.out _ (Mod.refl _ _)
  · have HN := Lib.hid hn
    have HR : Hid (rightE true D = 0) := by show rightE true D = 0; simp [rightE, hoff]
    have HV := Lib.hid (lost hA hf)
    clear hn hA hoff hf
    go_enter Tryz.func80, Tryz.ntmps80
    go_wp2_with (first
      | (go_at_call 52; refine (named_any nm _ (by omega)).mono ?_; rintro e w' ⟨rfl, rfl⟩; rw [HN.out])
      | (go_at_call 51; refine (right_any true G d m kvs D _ HA.out).mono ?_; rintro e w' ⟨rfl, rfl⟩; rw [HR.out])
      | (at_lookup; refine wpList_look _ rfl (.tmp 20) (.tmp 21) true rfl strKey HA.out.map Tryz.underlying77 Tryz.underlying9 (zeroFile _) nm rfl rfl _ HV.out ?_))
    go_ret
    exact HP.out _ ((Mod.refl _ _).alloc _)

set_option maxRecDepth 100000 in
set_option maxHeartbeats 1000000 in
theorem remove_has (F : Nat → Prop) (d : Nat) (D : Dk) (nm : ByteArray) (f : Fl) (w : World) (h : DiskIs w F d D) (ok : DkOk D) (hs : nm.size ≤ 9223372036854775807)
    (hn : named nm = true) (hoff : D.off = false) (hf : findF D.files nm = some f) (D' : Dk) (E : Int) (hE : spendE D (-costF f) = E)
    (hD : (if E = 0 then { spendD D (-costF f) with files := delF D.files nm } else spendD D (-costF f)) = D') :
    Calls Tryz.prog 80 #[.pointer (some ⟨d, 0, none⟩), .string nm] w (DkPost F d D' (.int .i64 E) w) := by
  have HD := Lib.hid hD
  have HE := Lib.hid hE
  clear hD hE
  obtain ⟨G, m, kvs, hA, hFd, hFm, hGF, hFp, hFl⟩ := h
  obtain ⟨Af, cf, hg, hrf, hcf1, hcf2, hfG, hfn⟩ := found hA hf
  have hc := find_cost hf
  have hcu : costF f ≤ D.used := by rw [← ok.us]; exact hc
  have hflen : f.bytes.length ≤ 1099511627776 := by
    have h1 := ok.us; have h2 := ok.u1; have h3 := ok.n1
    unfold costF at hc
    omega
  have hcost : Hid ((16 : Int) + nm.size + f.bytes.length = costF f) := by show _ = _; unfold costF; rw [hfn]
  have hnms : nm.size ≤ 100 := by
    unfold named at hn
    simp only [Bool.and_eq_true, decide_eq_true_eq] at hn
    exact hn.2.1
  have hcb : 0 ≤ costF f ∧ costF f ≤ 2000000000000 := by rw [← hcost.out]; omega
  have HN := Lib.hid hn
  have HV := Lib.hid hg
  have HA := Lib.hid hA
  have c2 : w.cell? ⟨d, 2, none⟩ = some (.map (some m)) := hA.blk.cell 2
  have hdl := hA.blk.lt
  have hml := hA.map.lt
  have HR : Hid (rightE true D = 0) := by show rightE true D = 0; simp [rightE, hoff]
  clear hn hoff hfn hg hA hf hc
  obtain ⟨fl, hfl⟩ : ∃ fl, f.bytes.length = fl := ⟨_, rfl⟩
  have HFL := Lib.hid hfl
  rw [hfl] at hflen hcf1 hcost HV
  obtain ⟨co, hco⟩ : ∃ co, costF f = co := ⟨_, rfl⟩
  rw [hco] at hcost hcb hcu HE HD
  have hneg : IntKind.i64.wrap (-co) = -co := IntWalk.i64_in _ (by omega)
  have hneg2 : wrap64 (-co) = -co := by unfold wrap64; omega
  clear hfl hco
  go_enter Tryz.func80, Tryz.ntmps80
  go_wp2_with (first
    | (go_at_call 52; refine (named_any nm _ (by omega)).mono ?_; rintro e w' ⟨rfl, rfl⟩; rw [HN.out])
    | (go_at_call 51; refine (right_any true G d m kvs D _ HA.out).mono ?_; rintro e w' ⟨rfl, rfl⟩; rw [HR.out])
    | (go_at_call 53; refine (cost_any nm fl _ (by omega) (by omega)).mono ?_; rintro e w' ⟨rfl, rfl⟩; rw [hcost.out])
    | (at_lookup; refine wpList_look _ rfl (.tmp 20) (.tmp 21) true rfl strKey HA.out.map Tryz.underlying77 Tryz.underlying9 (zeroFile _) nm rfl rfl _ HV.out ?_))
  refine (spend_any G d m kvs D (-co) _ (HA.out.mod0 ((Mod.refl Non w).alloc _)) ok (by omega)).mono ?_
  rintro e w1 ⟨rfl, hA1, hm1⟩
  rw [HE.out]
  have HA1 := Lib.hid hA1
  have HM1 := Lib.hid hm1
  have c21 : w1.cell? ⟨d, 2, none⟩ = some (.map (some m)) := hA1.blk.cell 2
  clear hA1 hm1 c2 hneg hneg2
  have hmw1 : Hid (Mod F w w1) := ((Mod.refl F w).alloc _).trans HM1.out (fun k hk => by subst hk; exact .inl hFd)
  by_cases hE : E = 0
  · have HD' : Hid ({ spendD D (-co) with files := delF D.files nm } = D') := by
      have := HD.out
      rwa [if_pos hE] at this
    subst hE
    clear HD
    go_wp2_with (first
      | (at_builtin; fail)
      | (refine wpList_del _ rfl (.tmp 40) (.tmp 41) rfl strKey HA1.out.map Tryz.underlying77 Tryz.underlying9 nm rfl rfl ?_
         intro w3 hp3 hm3))
    go_ret
    have hfs := spendD_files D (-co)
    have hA3 := HA1.out.dropped hp3 hm3
    rw [hfs] at hA3
    refine ⟨rfl, dk_fin (by rw [← HD'.out]; exact hA3) hFd hFm hFp hFl (fun k hk => .inl (hGF k hk)) ?_ HA.out.lay.lt⟩
    exact hmw1.out.trans hm3 fun k hk => by subst hk; exact .inl hFm
  · have HD' : Hid (spendD D (-co) = D') := by
      have := HD.out
      rwa [if_neg hE] at this
    have hEb : (E == 0) = false := by simp [hE]
    clear HD hE
    go_wp2_with fail
    go_ret
    exact ⟨rfl, dk_fin (by rw [← HD'.out]; exact HA1.out) hFd hFm hFp hFl (fun k hk => .inl (hGF k hk)) hmw1.out HA.out.lay.lt⟩

/-- (*Disk).Remove. -/
theorem remove_any (F : Nat → Prop) (d : Nat) (D : Dk) (nm : ByteArray) (w : World) (h : DiskIs w F d D) (ok : DkOk D) (hs : nm.size ≤ 9223372036854775807) :
    Calls Tryz.prog 80 #[.pointer (some ⟨d, 0, none⟩), .string nm] w (DkPost F d (removeD D nm) (.int .i64 (removeE D nm)) w) := by
  by_cases hn : named nm = true
  · by_cases hoff : D.off = true
    · rw [show removeE D nm = 5 by simp [removeE, hn, hoff], show removeD D nm = D by simp [removeD, hoff]]
      exact remove_bad F d D nm w h hs 5 (.inr (.inl ⟨hn, hoff, rfl⟩))
    · have hoff' : D.off = false := by simpa using hoff
      cases hf : findF D.files nm with
      | none =>
        rw [show removeE D nm = 3 by simp [removeE, hn, hoff', hf], show removeD D nm = D by simp [removeD, hf]]
        exact remove_bad F d D nm w h hs 3 (.inr (.inr ⟨hn, hoff', hf, rfl⟩))
      | some f =>
        have h1 : removeE D nm = spendE D (-costF f) := by simp [removeE, hn, hoff', hf]
        have h2 : removeD D nm = if spendE D (-costF f) = 0 then { spendD D (-costF f) with files := delF D.files nm } else spendD D (-costF f) := by unfold removeD; rw [if_pos ⟨hn, hoff'⟩, hf]
        rw [h1, h2]
        exact remove_has F d D nm f w h ok hs hn hoff' hf _ _ rfl rfl
  · rw [show removeE D nm = 1 by unfold removeE; rw [if_neg hn], show removeD D nm = D by unfold removeD; rw [if_neg (fun h => hn h.1)]]
    exact remove_bad F d D nm w h hs 1 (.inl ⟨by simpa using hn, rfl⟩)

end Go.Proofs.YtdpjnpjmokncdaaGreatDoor

/- (*Disk).Rename, the plain part. -/
namespace Go.Proofs.YtdpjnpjmokncdaaGreatDoor
open Go.RowKit

/-- what a new name costs. -/
def moreR (D : Dk) (a b : ByteArray) : Int := (b.size : Int) - a.size - (match findF D.files b with | some g => if a = b then 0 else costF g | none => 0)
def renameE (D : Dk) (a b : ByteArray) : Int :=
  if named a = true ∧ named b = true then if D.off = true then 5 else match findF D.files a with
    | none => 3
    | some _ => spendE D (moreR D a b)
  else 1
def renameD (D : Dk) (a b : ByteArray) : Dk :=
  if named a = true ∧ named b = true ∧ D.off = false then
    match findF D.files a with
    | none => D
    | some f => if spendE D (moreR D a b) = 0 then { spendD D (moreR D a b) with files := putF (delF D.files a) { f with name := b } } else spendD D (moreR D a b)
  else D

theorem usedF_rename {D : Dk} (ok : DkOk D) {a b : ByteArray} {f : Fl} (hf : findF D.files a = some f) : usedF (putF (delF D.files a) { f with name := b }) = D.used + moreR D a b := by
  have hd := usedF_del hf
  have hn := find_name hf
  have us := ok.us
  unfold moreR
  by_cases hab : a = b
  · subst hab
    have h0 := findF_del_same (nm := a) ok.nd
    rw [usedF_put_new _ (by exact h0), hd, hf]
    simp only [if_pos, costF, hn]
    omega
  · have ho := findF_del_other hab D.files
    cases hb : findF D.files b with
    | none =>
      rw [usedF_put_new _ (by rw [ho]; exact hb), hd]
      simp only [costF, hn]
      omega
    | some g =>
      rw [usedF_put_has _ (by rw [ho]; exact hb), hd]
      simp only [if_neg hab, costF, hn]
      omega

theorem renameD_ok {D : Dk} (ok : DkOk D) (a b : ByteArray) : DkOk (renameD D a b) := by
  unfold renameD
  split
  · rename_i hnn
    split
    · exact ok
    · rename_i f hf
      split
      · rename_i h0
        obtain ⟨h1, h2, h3⟩ := spendE_zero h0
        rw [h3]
        have l0 := ok.l0; have l1 := ok.l1; have u0 := ok.u0; have us := ok.us; have u1 := ok.u1
        have hu := usedF_rename ok (b := b) hf
        have hp := usedF_nonneg (putF (delF D.files a) { f with name := b })
        refine ⟨ok.n0, ok.n1, by simp only; omega, by simp only; omega, by simp only; omega, by simp only; omega, hu, ?_, ?_, nodup_put _ (nodup_del ok.nd)⟩
        · intro g hg
          rcases mem_put hg with rfl | hg
          · exact ok.sf f (findF_mem hf)
          · exact ok.sf g (mem_del hg)
        · intro g hg
          rcases mem_put hg with rfl | hg
          · exact hnn.2.1
          · exact ok.nm g (mem_del hg)
      · rename_i h0
        exact spendD_not_ok ok h0
  · exact ok

end Go.Proofs.YtdpjnpjmokncdaaGreatDoor

/- (*Disk).Rename, the walk: where it cannot be. -/
namespace Go.Proofs.YtdpjnpjmokncdaaGreatDoor
open Go.RowKit

set_option maxRecDepth 100000 in
set_option maxHeartbeats 1600000 in
theorem rename_bad (F : Nat → Prop) (d : Nat) (D : Dk) (a b : ByteArray) (w : World) (h : DiskIs w F d D) (hsa : a.size ≤ 9223372036854775807) (hsb : b.size ≤ 9223372036854775807) (E : Int)
    (hn : named a = false ∧ E = 1 ∨ named a = true ∧ named b = false ∧ E = 1 ∨ named a = true ∧ named b = true ∧ D.off = true ∧ E = 5 ∨ named a = true ∧ named b = true ∧ D.off = false ∧ findF D.files a = none ∧ E = 3) :
    Calls Tryz.prog 41 #[.pointer (some ⟨d, 0, none⟩), .string a, .string b] w (DkPost F d D (.int .i64 E) w) := by
  have HH := Lib.hid h
  have hP : ∀ w', Mod Non w w' → DkPost F d D (.int .i64 E) w (.returned (.int .i64 E)) w' := fun w' e => ⟨rfl, F, HH.out.mod0 e, e.non, fun k hk => .inl hk⟩
  obtain ⟨G, m, kvs, hA, hFd, hFm, hGF, hFp, hFl⟩ := h
  have c2 : w.cell? ⟨d, 2, none⟩ = some (.map (some m)) := hA.blk.cell 2
  have HA := Lib.hid hA
  have HP := Lib.hid hP
  clear hP
  rcases hn with ⟨hn, rfl⟩ | ⟨hn, hb, rfl⟩ | ⟨hn, hb, hoff, rfl⟩ | ⟨hn, hb, hoff, hf, rfl⟩
  · have HNA := Lib.hid hn
    have HR : Hid (rightE false D = 1) := rfl
    clear hn hA
    go_enter Tryz.func41, Tryz.ntmps41
    go_wp2_with (first
      | (go_at_call 52; (with_reducible refine (named_any a _ (by omega)).mono ?_); rintro e w' ⟨rfl, rfl⟩; rw [HNA.out])
      | (go_at_call 51; refine (right_any false G d m kvs D _ HA.out).mono ?_; rintro e w' ⟨rfl, rfl⟩; rw [HR.out])
      | fail)
    go_ret
    exact HP.out _ (Mod.refl _ _)
  · have HNA := Lib.hid hn
    have HNB := Lib.hid hb
    have HR : Hid (rightE false D = 1) := rfl
    clear hn hb hA
    go_enter Tryz.func41, Tryz.ntmps41
    go_wp2_with (first
      | (go_at_call 52; (with_reducible refine (named_any a _ (by omega)).mono ?_); rintro e w' ⟨rfl, rfl⟩; rw [HNA.out])
      | (go_at_call 52; (with_reducible refine (named_any b _ (by omega)).mono ?_); rintro e w' ⟨rfl, rfl⟩; rw [HNB.out])
      | (go_at_call 51; refine (right_any false G d m kvs D _ HA.out).mono ?_; rintro e w' ⟨rfl, rfl⟩; rw [HR.out])
      | fail)
    go_ret
    exact HP.out _ (Mod.refl _ _)
  · have HNA := Lib.hid hn
    have HNB := Lib.hid hb
    have HR : Hid (rightE true D = 5) := by show rightE true D = 5; simp [rightE, hoff]
    clear hn hb hA hoff
    go_enter Tryz.func41, Tryz.ntmps41
    go_wp2_with (first
      | (go_at_call 52; (with_reducible refine (named_any a _ (by omega)).mono ?_); rintro e w' ⟨rfl, rfl⟩; rw [HNA.out])
      | (go_at_call 52; (with_reducible refine (named_any b _ (by omega)).mono ?_); rintro e w' ⟨rfl, rfl⟩; rw [HNB.out])
      | (go_at_call 51; refine (right_any true G d m kvs D _ HA.out).mono ?_; rintro e w' ⟨rfl, rfl⟩; rw [HR.out])
      | fail)
    go_ret
    exact HP.out _ (Mod.refl _ _)
  · have HNA := Lib.hid hn
    have HNB := Lib.hid hb
    have HR : Hid (rightE true D = 0) := by show rightE true D = 0; simp [rightE, hoff]
    have HV := Lib.hid (lost hA hf)
    clear hn hb hA hoff hf
    go_enter Tryz.func41, Tryz.ntmps41
    go_wp2_with (first
      | (go_at_call 52; (with_reducible refine (named_any a _ (by omega)).mono ?_); rintro e w' ⟨rfl, rfl⟩; rw [HNA.out])
      | (go_at_call 52; (with_reducible refine (named_any b _ (by omega)).mono ?_); rintro e w' ⟨rfl, rfl⟩; rw [HNB.out])
      | (go_at_call 51; refine (right_any true G d m kvs D _ HA.out).mono ?_; rintro e w' ⟨rfl, rfl⟩; rw [HR.out])
      | (at_lookup; refine wpList_look _ rfl (.tmp 29) (.tmp 30) true rfl strKey HA.out.map Tryz.underlying77 Tryz.underlying9 (zeroFile _) a rfl rfl _ HV.out ?_)
      | fail)
    go_ret
    exact HP.out _ ((Mod.refl _ _).alloc _)

end Go.Proofs.YtdpjnpjmokncdaaGreatDoor
