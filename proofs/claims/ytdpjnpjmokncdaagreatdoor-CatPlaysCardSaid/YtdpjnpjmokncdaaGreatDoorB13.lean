/- The reference's disk: Sync. -/
import Derived.Test.YtdpjnpjmokncdaaGreatDoorB12
import Derived.Test.YtdpjnpjmokncdaaGreatDoorB11
import Derived.Deep.RegionHeld3
namespace Go.Proofs.YtdpjnpjmokncdaaGreatDoor
open Go.RowKit

set_option maxRecDepth 100000 in
set_option maxHeartbeats 1000000 in
theorem syncR_any (nm : ByteArray) (E : Nat → Prop) (r : Nat) (D : Dk) (w : World) (h : RkIs w E r D) (ok : DkOk D) (hs : nm.size ≤ 9223372036854775807) :
    Calls Tryz.prog 152 #[.pointer (some ⟨r, 0, none⟩), .string nm] w (RkPost E r (syncD D nm) (.int .i64 (syncE D nm)) w) := by
  have HH := Lib.hid h
  have hfl := files_len ok
  obtain ⟨B, A, n, c, xs, h1, hE, hBE, hEl⟩ := h
  have HA := Lib.hid h1
  have HOK := Lib.hid ok
  have l0 := ok.l0
  have l1 := ok.l1
  have hnc := h1.nc
  have hcm := h1.cm
  obtain ⟨nb, hnb⟩ : ∃ nb, named nm = nb := ⟨_, rfl⟩
  have HN := Lib.hid hnb
  have HR := Lib.hid (rightR_any nb B r D A n c xs w h1)
  have HF := Lib.hid (h1.fs.find ok.nd nm)
  obtain ⟨D', hD'⟩ : ∃ D', syncD D nm = D' := ⟨_, rfl⟩
  obtain ⟨E', hE'⟩ : ∃ E', syncE D nm = E' := ⟨_, rfl⟩
  rw [hD', hE']
  have HD := Lib.hid hD'
  have HEE := Lib.hid hE'
  clear h1 ok hnb hD' hE'
  by_cases hgo : nb = true ∧ D.off = false
  · obtain ⟨rfl, hoff⟩ := hgo
    have HRV : Hid (rightE true D = 0) := by show _ = _; unfold rightE; rw [hoff]; simp
    have HOFF := Lib.hid hoff
    have HC := Lib.hid (at_any nm B r D A n c xs w HA.out)
    clear hoff
    go_enter Tryz.func152, Tryz.ntmps152
    go_wp2_with fail
    refine (namedR_any nm _ hs).mono ?_
    rw [HN.out]
    rintro e w1 ⟨rfl, rfl⟩
    go_wp2_with fail
    refine HR.out.mono ?_
    rw [HRV.out]
    rintro e w1 ⟨rfl, rfl⟩
    go_wp2_with fail
    refine HC.out.mono ?_
    rintro e w1 ⟨rfl, hp⟩
    rcases hp with ⟨hf, rfl⟩ | ⟨i, f, hi, hf, hnm, rfl⟩
    · rw [HF.out] at hf
      have HV : Hid (D' = D ∧ E' = 3) := by
        show _ ∧ _
        rw [← HD.out, ← HEE.out]
        constructor
        · unfold syncD; rw [if_pos ⟨HN.out, HOFF.out⟩, hf]
        · unfold syncE; rw [if_pos HN.out, if_neg (by rw [HOFF.out]; simp), hf]; rfl
      clear hf
      go_wp2_with fail
      go_ret
      exact ⟨by rw [HV.out.2]; rfl, E, by rw [HV.out.1]; exact HH.out, Mod.refl _ _, fun k hk => .inl hk⟩
    · rw [HF.out] at hf
      have u1 := HOK.out.u1
      have HS := Lib.hid (stepR_any B r D A n c xs w HA.out l0 l1)
      have i0 : (0 : Int) ≤ (i : Int) := by omega
      have HFF := Lib.hid hf
      have HI := Lib.hid hi
      have HNM := Lib.hid hnm
      clear hf hi hnm
      by_cases hz : D.left = 0
      · have HV : Hid (D' = stepD D ∧ E' = 5) := by
          show _ ∧ _
          have e5 : spendE D 0 = 5 := by unfold spendE; rw [if_neg (by omega), if_pos hz]
          have h6 : spendD D 0 = stepD D := by unfold spendD stepD; rw [if_neg (by omega), if_pos hz, if_pos hz]
          rw [← HD.out, ← HEE.out]
          constructor
          · unfold syncD
            rw [if_pos ⟨HN.out, HOFF.out⟩, HFF.out]
            show (if spendE D 0 = 0 then _ else _) = _
            rw [if_neg (by omega), h6]
          · unfold syncE
            rw [if_pos HN.out, if_neg (by rw [HOFF.out]; simp), HFF.out, if_pos (show (some f).isSome = true from rfl)]
            exact e5
        have hzb : decide (D.left ≠ 0) = false := by simp [hz]
        have HZ := Lib.hid hzb
        clear hzb hz
        go_wp2_with fail
        refine HS.out.mono ?_
        rw [HZ.out]
        rintro e w2 ⟨rfl, hA2, hm2⟩
        have HA2 := Lib.hid hA2
        have HM2 := Lib.hid hm2
        clear hA2 hm2
        go_wp2_with fail
        go_ret
        exact ⟨by rw [HV.out.2]; rfl, E, by rw [HV.out.1]; exact RkIs.of_at HA2.out hE hBE hEl HM2.out, HM2.out, fun k hk => .inl hk⟩
      · have HV : Hid (E' = 0 ∧ D'.n = D.n ∧ D'.files = putF D.files ⟨nm, f.bytes.length, f.bytes⟩ ∧ D'.done = (stepD D).done ∧ D'.left = (stepD D).left ∧ D'.off = (stepD D).off) := by
          show _ ∧ _
          have e5 : spendE D 0 = 0 := by unfold spendE; rw [if_neg (by omega), if_neg hz]
          have h7 : syncD D nm = { spendD D 0 with files := putF D.files ⟨nm, f.bytes.length, f.bytes⟩ } := by
            unfold syncD
            rw [if_pos ⟨HN.out, HOFF.out⟩, HFF.out]
            show (if spendE D 0 = 0 then _ else _) = _
            rw [if_pos e5]
          have h8 : syncE D nm = 0 := by
            unfold syncE
            rw [if_pos HN.out, if_neg (by rw [HOFF.out]; simp), HFF.out, if_pos (show (some f).isSome = true from rfl)]
            exact e5
          have h9 : spendD D 0 = { D with left := max (D.left - 1) (-1), done := wrap64 (D.done + 1), used := D.used + 0 } := by unfold spendD; rw [if_neg (by omega), if_neg hz]
          have h10 : stepD D = { D with left := max (D.left - 1) (-1), done := wrap64 (D.done + 1) } := by unfold stepD; rw [if_neg hz]
          refine ⟨by rw [← HEE.out, h8], ?_⟩
          rw [← HD.out, h7, h9, h10]
          exact ⟨rfl, rfl, rfl, rfl, rfl⟩
        have hzb : decide (D.left ≠ 0) = true := by simp [hz]
        have HZ := Lib.hid hzb
        have HSF : Hid ((stepD D).files = D.files ∧ (stepD D).n = D.n) := by unfold stepD; split <;> exact ⟨rfl, rfl⟩
        clear hzb hz
        go_wp2_with fail
        refine HS.out.mono ?_
        rw [HZ.out]
        rintro e w2 ⟨rfl, hA2, hm2⟩
        have HA2 := Lib.hid hA2
        have HM2 := Lib.hid hm2
        have hil : i < n := by
          have := (List.getElem?_eq_some_iff.1 HI.out).1
          have h2 := HA.out.len
          simp at this; omega
        obtain ⟨b, o, y, rfl, hy, g0, g1, g2⟩ := hA2.row.file hil
        have hyf : y.f = f := by have hi := HI.out; rw [List.getElem?_map, hy] at hi; simpa using hi
        have hyB := hA2.byt y (List.mem_of_getElem? hy)
        have HYB := Lib.hid hyB
        obtain ⟨yf, yA, yc⟩ := y
        simp only at hyf
        subst hyf
        obtain ⟨yn, ys, yb⟩ := yf
        have c1x : w2.cell? ⟨r, 1, none⟩ = some (.slice (some ⟨b, o, none⟩) n c) := hA2.blk.cell 1
        have hrl := hA2.blk.lt
        have hbl : b < w2.heap.size := World.block_lt_of_cell? w2 _ g2
        have i1 : (i : Int) < (n : Int) := by omega
        simp only at g0 g1 g2
        clear hA2 hm2 hy hyB
        go_wp2_with fail
        have hyr := HYB.out.2.2.2
        refine (put_any ⟨⟨yn, yb.length, yb⟩, yA, yc⟩ E r (stepD D) _ ((RkIs.of_at HA2.out hE hBE hEl HM2.out).mod0 ((Mod.refl Non w2).alloc _)) (by rw [HSF.out.1]; exact HOK.out.nd) (by rw [HSF.out.1]; omega) (HYB.out.1.alloc _) HYB.out.2.1 HYB.out.2.2.1 (fun g hg => ⟨fun e => HA2.out.rB (e ▸ hyr g hg), by have := hEl g (hBE g (hyr g hg)); have := HM2.out.size; simp; omega⟩)).mono ?_
        rintro e w3 ⟨rfl, E3, h3, hm3, hE3⟩
        have H3 := Lib.hid h3
        have HM3 := Lib.hid hm3
        have HE3 := Lib.hid hE3
        have HYR := Lib.hid hyr
        clear h3 hm3 hE3 c1x g0 g1 g2 hyr
        go_wp2_with fail
        go_ret
        refine ⟨by rw [HV.out.1]; rfl, E3, H3.out.like ?_ ?_ ?_ ?_ ?_, (HM2.out.alloc _).trans HM3.out fun k hk => .inl hk, fun k hk => ?_⟩
        · rw [HV.out.2.1]; exact HSF.out.2.symm
        · rw [HV.out.2.2.1]
          show _ = putF (stepD D).files _
          have hnm : yn = nm := HNM.out
          rw [HSF.out.1, hnm]
        · exact HV.out.2.2.2.1
        · exact HV.out.2.2.2.2.1
        · exact HV.out.2.2.2.2.2
        · rcases HE3.out k hk with h | h | h
          · exact .inl h
          · exact .inl (hBE k (HYR.out k h))
          · exact .inr (by have := HM2.out.size; simp at h; omega)
  · have HV : Hid (D' = D ∧ rightE nb D = E' ∧ E' ≠ 0) := by
      show _ ∧ _ ∧ _
      rw [← HD.out, ← HEE.out]
      unfold syncD syncE rightE
      rw [HN.out, if_neg hgo]
      cases nb with
      | false => simp
      | true =>
        cases hoff : D.off with
        | true => simp
        | false => exact absurd ⟨rfl, hoff⟩ hgo
    have hEb : (E' == 0) = false := by simpa using HV.out.2.2
    clear hgo
    go_enter Tryz.func152, Tryz.ntmps152
    go_wp2_with fail
    refine (namedR_any nm _ hs).mono ?_
    rw [HN.out]
    rintro e w1 ⟨rfl, rfl⟩
    go_wp2_with fail
    refine HR.out.mono ?_
    rw [HV.out.2.1]
    rintro e w1 ⟨rfl, rfl⟩
    go_wp2_with fail
    go_ret
    exact ⟨rfl, E, by rw [HV.out.1]; exact HH.out, Mod.refl _ _, fun k hk => .inl hk⟩

end Go.Proofs.YtdpjnpjmokncdaaGreatDoor

/- The reference's disk: Append. -/
namespace Go.Proofs.YtdpjnpjmokncdaaGreatDoor
open Go.RowKit

/-- Append's answers, where all is well ahead. -/
theorem append_plain {D : Dk} {nm : ByteArray} {b : List UInt8} (hn : named nm = true) (hb : b.length ≤ 4096) (ho : D.off = false) :
    (D.n - D.used < moreA D nm b.length → appendD D nm b = D ∧ appendE D nm b = 4) ∧
    (¬ D.n - D.used < moreA D nm b.length → D.left = 0 → appendD D nm b = stepD D ∧ appendE D nm b = 5) ∧
    (¬ D.n - D.used < moreA D nm b.length → D.left ≠ 0 → appendE D nm b = 0 ∧ (appendD D nm b).n = D.n ∧ (appendD D nm b).files = putF D.files (fileA D nm b) ∧ (appendD D nm b).done = (stepD D).done ∧ (appendD D nm b).left = (stepD D).left ∧ (appendD D nm b).off = (stepD D).off) := by
  have hD : appendD D nm b = if spendE D (moreA D nm b.length) = 0 then { spendD D (moreA D nm b.length) with files := putF D.files (fileA D nm b) } else spendD D (moreA D nm b.length) := by
    unfold appendD; rw [if_pos ⟨hn, hb, ho⟩]
  have hE : appendE D nm b = spendE D (moreA D nm b.length) := by
    unfold appendE; rw [if_pos ⟨hn, hb⟩, if_neg (by rw [ho]; simp)]
  refine ⟨fun h => ?_, fun h hz => ?_, fun h hz => ?_⟩
  · have e : spendE D (moreA D nm b.length) = 4 := by unfold spendE; rw [if_pos h]
    refine ⟨?_, by rw [hE, e]⟩
    rw [hD, if_neg (by omega)]
    unfold spendD; rw [if_pos h]
  · have e : spendE D (moreA D nm b.length) = 5 := by unfold spendE; rw [if_neg h, if_pos hz]
    refine ⟨?_, by rw [hE, e]⟩
    rw [hD, if_neg (by omega)]
    unfold spendD stepD; rw [if_neg h, if_pos hz, if_pos hz]
  · have e : spendE D (moreA D nm b.length) = 0 := by unfold spendE; rw [if_neg h, if_neg hz]
    refine ⟨by rw [hE, e], ?_⟩
    have h9 : spendD D (moreA D nm b.length) = { D with left := max (D.left - 1) (-1), done := wrap64 (D.done + 1), used := D.used + moreA D nm b.length } := by unfold spendD; rw [if_neg h, if_neg hz]
    have h10 : stepD D = { D with left := max (D.left - 1) (-1), done := wrap64 (D.done + 1) } := by unfold stepD; rw [if_neg hz]
    rw [hD, if_pos e, h9, h10]
    exact ⟨rfl, rfl, rfl, rfl, rfl⟩

set_option maxRecDepth 100000 in
set_option maxHeartbeats 1000000 in
theorem appendR_any (nm : ByteArray) (Bb : Option Addr) (m cb : Nat) (b : List UInt8) (E : Nat → Prop) (r : Nat) (D : Dk) (w : World) (h : RkIs w E r D) (ok : DkOk D) (g : RdO w (fun k => k = r) Bb m (by8 b)) (hs : nm.size ≤ 9223372036854775807) (hm : m ≤ 9223372036854775807) :
    Calls Tryz.prog 151 #[.pointer (some ⟨r, 0, none⟩), .string nm, .slice Bb m cb] w (RkPost E r (appendD D nm b) (.int .i64 (appendE D nm b)) w) := by
  have hbl : b.length = m := by simpa using g.1.1
  have HBL := Lib.hid hbl
  have HH := Lib.hid h
  have HG := Lib.hid g
  have hfl := files_len ok
  obtain ⟨B, A, n, c, xs, h1, hE, hBE, hEl⟩ := h
  have HA := Lib.hid h1
  have HOK := Lib.hid ok
  have l0 := ok.l0
  have l1 := ok.l1
  have hnc := h1.nc
  have hcm := h1.cm
  have hrl := h1.blk.lt
  obtain ⟨nb, hnb⟩ : ∃ nb, named nm = nb := ⟨_, rfl⟩
  have HN := Lib.hid hnb
  have HR : Hid (∀ v : Bool, _) := Lib.hid fun v : Bool => rightR_any v B r D A n c xs w h1
  have HF := Lib.hid (h1.fs.find ok.nd nm)
  obtain ⟨D', hD'⟩ : ∃ D', appendD D nm b = D' := ⟨_, rfl⟩
  obtain ⟨E', hE'⟩ : ∃ E', appendE D nm b = E' := ⟨_, rfl⟩
  rw [hD', hE']
  have HD := Lib.hid hD'
  have HEE := Lib.hid hE'
  clear h1 ok hnb hD' hE' g hbl
  by_cases hgo : nb = true ∧ m ≤ 4096 ∧ D.off = false
  · obtain ⟨rfl, hm4, hoff⟩ := hgo
    have HRV : Hid (rightE true D = 0) := by show _ = _; unfold rightE; rw [hoff]; simp
    have HOFF := Lib.hid hoff
    have HPL := Lib.hid (append_plain (b := b) HN.out (by rw [HBL.out]; exact hm4) hoff)
    rw [HD.out, HEE.out] at HPL
    have HC := Lib.hid fun W (hW : Mod Non w W) => at_any nm B r D A n c xs W (HA.out.mod0 hW)
    have hns := named_size HN.out
    have hdm : decide ((m : Int) ≤ 4096) = true := decide_eq_true (by omega)
    clear hoff
    go_enter Tryz.func151, Tryz.ntmps151
    go_wp2_with fail
    refine (namedR_any nm _ hs).mono ?_
    rw [HN.out]
    rintro e w1 ⟨rfl, rfl⟩
    go_wp2_with fail
    refine (HR.out true).mono ?_
    rw [HRV.out]
    rintro e w1 ⟨rfl, rfl⟩
    go_wp2_with fail
    refine (HC.out _ ((Mod.refl Non w).alloc _)).mono ?_
    rintro e w1 ⟨rfl, hp⟩
    have HFR := Lib.hid fun W (hW : Mod Non w W) => freeR_any B r D A n c xs W (HA.out.mod0 hW) HOK.out.n0 HOK.out.n1 (by rw [HOK.out.us]; have := HOK.out.u1; have := HOK.out.n1; omega)
    rw [HOK.out.us] at HFR
    have n0 := HOK.out.n0
    have n1 := HOK.out.n1
    have u0 := HOK.out.u0
    have u1 := HOK.out.u1
    rcases hp with ⟨hf, rfl⟩ | ⟨i, f, hi, hf, hnm, rfl⟩
    · rw [HF.out] at hf
      have HMO : Hid (moreA D nm b.length = (m : Int) + 16 + (nm.size : Int) ∧ fileA D nm b = ⟨nm, 0, b⟩) := by
        show _ ∧ _
        unfold moreA fileA
        rw [hf, HBL.out]
        exact ⟨by simp; omega, rfl⟩
      clear hf
      go_wp2_with fail
      refine (HFR.out _ ((Mod.refl Non w).alloc _)).mono ?_
      rintro e w1 ⟨rfl, q1, rfl⟩
      by_cases hsp : D.n - D.used < (m : Int) + 16 + (nm.size : Int)
      · have HV := Lib.hid (HPL.out.1 (by rw [HMO.out.1]; exact hsp))
        go_wp2_with fail
        go_ret
        exact ⟨by rw [HV.out.2]; rfl, E, by rw [HV.out.1]; exact HH.out.mod0 (((Mod.refl Non w).alloc _).drewN _), (((Mod.refl _ w).alloc _).drewN _), fun k hk => .inl hk⟩
      · by_cases hz : D.left = 0
        · have HV := Lib.hid (HPL.out.2.1 (by rw [HMO.out.1]; omega) hz)
          have hzb : decide (D.left ≠ 0) = false := by simp [hz]
          have HZ := Lib.hid hzb
          clear hzb hz
          go_wp2_with fail
          refine (stepR_any B r D _ n c xs _ (HA.out.mod0 (((Mod.refl Non w).alloc _).drewN _)) l0 l1).mono ?_
          rw [HZ.out]
          rintro e w2 ⟨rfl, hA2, hm2⟩
          have HA2 := Lib.hid hA2
          have HM2 := Lib.hid (((((Mod.refl Non w).alloc (.cells #[.string nm, .int .i64 0, .slice none 0 0] 67)).drewN q1)).non.trans hm2 (S := fun k => k = r) fun _ h => .inl h)
          clear hA2 hm2
          go_wp2_with fail
          go_ret
          exact ⟨by rw [HV.out.2]; rfl, E, by rw [HV.out.1]; exact RkIs.of_at HA2.out hE hBE hEl HM2.out, HM2.out, fun k hk => .inl hk⟩
        · have HV := Lib.hid (HPL.out.2.2 (by rw [HMO.out.1]; omega) hz)
          have hzb : decide (D.left ≠ 0) = true := by simp [hz]
          have HZ := Lib.hid hzb
          have HSF : Hid ((stepD D).files = D.files ∧ (stepD D).n = D.n) := by unfold stepD; split <;> exact ⟨rfl, rfl⟩
          clear hzb hz
          go_wp2_with fail
          refine (stepR_any B r D _ n c xs _ (HA.out.mod0 (((Mod.refl Non w).alloc _).drewN _)) l0 l1).mono ?_
          rw [HZ.out]
          rintro e w2 ⟨rfl, hA2, hm2⟩
          have HA2 := Lib.hid hA2
          have hbx : Blk w2 w.heap.size 67 #[.string nm, .int .i64 0, .slice none 0 0] := ((Blk.new w _ _).drewN q1).mod hm2 (by omega)
          have M02 := Lib.hid (((((Mod.refl Non w).alloc (.cells #[.string nm, .int .i64 0, .slice none 0 0] 67)).drewN q1)).non.trans hm2 (S := fun k => k = r) fun _ h => .inl h)
          have hbl : w.heap.size < w2.heap.size := hbx.lt
          have b2 : w2.cell? ⟨w.heap.size, 2, none⟩ = some (.slice none 0 0) := hbx.cell 2
          have HBX := Lib.hid hbx
          have RD0 : Hid (Rd w2 none 0 (by8 ([] : List UInt8))) := Rd.nil _ _
          obtain ⟨L2, hL2⟩ : ∃ L2, ([] : List UInt8) ++ b = L2 := ⟨_, rfl⟩
          have HL2 := Lib.hid hL2
          have HK : Hid (0 + m = L2.length) := by show _ = _; rw [← hL2, List.length_append, HBL.out]; simp
          have hlb : 0 ≤ 1099511627776 := by omega
          clear hA2 hm2 hbx hL2
          go_wp2_with (first
            | (at_builtin
               refine wpList_app8 bt _ rfl (.tmp 51) (.tmp 53) rfl w2.heap.size (.slice (some ⟨w2.heap.size, 0, none⟩) 0 0) 0 [] rfl (own_empty w2 5 1) none 0 0 ([] : List UInt8) rfl (RD0.out.alloc _) 0 (by omega) ([] : List UInt8) rfl (by omega) (by simp) ?_
               intro pA pc pw phc pown pg pat
               have M2P := Lib.hid (((Mod.refl Non w2).alloc (.cells #[] 5)).trans (Mod.of_grown (S := fun g => (Value.slice (some ⟨w2.heap.size, 0, none⟩) 0 0).ownBlock = some g) pg fun _ h => h) fun g hg => .inr (by simp [Value.ownBlock] at hg; omega))
               have hpz := M2P.out.size
               have prow := pown.lt
               have POWN := Lib.hid pown
               clear pown pg pat b2)
            | (at_builtin
               refine wpList_app8 bt _ rfl (.tmp 54) (.tmp 55) rfl w2.heap.size (.slice pA 0 pc) 0 ([] : List UInt8) rfl POWN.out Bb m cb b rfl ((HG.out.1.mod M02.out HG.out.2).mod0 M2P.out) L2.length HK.out L2 HL2.out (by rw [← HK.out]; omega) (by omega) ?_
               intro qA qc qw qhc qown qg qat
               have M2Q := Lib.hid (M2P.out.trans (Mod.of_grown (S := fun g => (Value.slice pA 0 pc).ownBlock = some g) qg fun _ h => h) fun g hg => .inr (prow g hg).1)
               have hbq := HBX.out.mod M2Q.out (fun h => h)
               have b0q : qw.cell? ⟨w.heap.size, 0, none⟩ = some (.string nm) := hbq.cell 0
               have b1q : qw.cell? ⟨w.heap.size, 1, none⟩ = some (.int .i64 0) := hbq.cell 1
               have b2q : qw.cell? ⟨w.heap.size, 2, none⟩ = some (.slice none 0 0) := hbq.cell 2
               have f2q := hbq.frozen 2
               have hqz := M2Q.out.size
               have qrow := qown.lt
               have qsl := own_slice qown
               have qbase := Lib.hid (own_base qown)
               have QOWN := Lib.hid qown
               clear qown qg qat hbq))
          have hset : Mod (fun k => k = w.heap.size) qw (qw.setCell ⟨w.heap.size, 2, none⟩ (.slice qA L2.length qc)) := (Mod.refl _ qw).set1 2 _
          have HSET := Lib.hid hset
          have hqc : L2.length ≤ qc ∧ qc ≤ 9223372036854775807 := by
            obtain ⟨A', c', he, h2, h3⟩ := qsl
            injection he with _ _ he
            subst he
            exact ⟨h2, by have : maxLen = 9223372036854775807 := rfl; omega⟩
          clear hset qsl
          refine (put_any ⟨⟨nm, 0, L2⟩, qA, qc⟩ E r (stepD D) _ (((RkIs.of_at HA2.out hE hBE hEl M02.out).mod0 M2Q.out).mod HSET.out (fun k hk e => by have := hEl k hk; omega)) (by rw [HSF.out.1]; exact HOK.out.nd) (by rw [HSF.out.1]; omega) ((Rd.of_own QOWN.out).mod HSET.out fun _ g hg e => by have := qbase.out g hg; omega) hqc.1 hqc.2 (fun g hg => ⟨fun e => by have := qbase.out g hg; omega, by have := (qrow g (by rw [slice_blk]; exact hg)).2; simp [World.setCell]; omega⟩)).mono ?_
          rintro e w3 ⟨rfl, E3, h3, hm3, hE3⟩
          have H3 := Lib.hid h3
          have HM3 := Lib.hid hm3
          have HE3 := Lib.hid hE3
          clear h3 hm3 hE3 b0q b1q b2q f2q
          go_wp2_with fail
          go_ret
          refine ⟨by rw [HV.out.1]; rfl, E3, H3.out.like ?_ ?_ ?_ ?_ ?_, ((M02.out.trans0 M2Q.out).trans HSET.out fun k hk => .inr (by omega)).trans HM3.out fun k hk => .inl hk, fun k hk => ?_⟩
          · rw [HV.out.2.1]; exact HSF.out.2.symm
          · rw [HV.out.2.2.1, HMO.out.2]
            show _ = putF (stepD D).files _
            rw [HSF.out.1, ← HL2.out]
            try rfl
          · exact HV.out.2.2.2.1
          · exact HV.out.2.2.2.2.1
          · exact HV.out.2.2.2.2.2
          · rcases HE3.out k hk with h | h | h
            · exact .inl h
            · exact .inr (by have := qbase.out k h; omega)
            · exact .inr (by simp [World.setCell] at h; omega)
    · rw [HF.out] at hf
      have HMO : Hid (moreA D nm b.length = (m : Int) ∧ fileA D nm b = ⟨nm, f.safe, f.bytes ++ b⟩) := by
        show _ ∧ _
        unfold moreA fileA
        rw [hf, HBL.out]
        exact ⟨rfl, rfl⟩
      have hylen := (find_len HOK.out hf).1
      have hil : i < n := by
        have := (List.getElem?_eq_some_iff.1 hi).1
        have h2 := HA.out.len
        simp at this; omega
      obtain ⟨bb, o, y, rfl, hy, g0, g1, g2⟩ := HA.out.row.file hil
      have hyf : y.f = f := by rw [List.getElem?_map, hy] at hi; simpa using hi
      have HYB := Lib.hid (HA.out.byt y (List.mem_of_getElem? hy))
      obtain ⟨yf, yA, yc⟩ := y
      simp only at hyf
      subst hyf
      obtain ⟨yn, ys, yb⟩ := yf
      obtain rfl : nm = yn := hnm.symm
      have c1x : w.cell? ⟨r, 1, none⟩ = some (.slice (some ⟨bb, o, none⟩) n c) := HA.out.blk.cell 1
      have hbbl : bb < w.heap.size := World.block_lt_of_cell? w _ g2
      have i0 : (0 : Int) ≤ (i : Int) := by omega
      have i1 : (i : Int) < (n : Int) := by omega
      simp only at g0 g1 g2 hylen
      clear hf hi hnm hy
      go_wp2_with fail
      clear g0 g1 g2 c1x
      refine (HFR.out _ ((Mod.refl Non w).alloc _)).mono ?_
      rintro e w1 ⟨rfl, q1, rfl⟩
      by_cases hsp : D.n - D.used < (m : Int)
      · have HV := Lib.hid (HPL.out.1 (by rw [HMO.out.1]; exact hsp))
        go_wp2_with fail
        go_ret
        exact ⟨by rw [HV.out.2]; rfl, E, by rw [HV.out.1]; exact HH.out.mod0 (((Mod.refl Non w).alloc _).drewN _), (((Mod.refl _ w).alloc _).drewN _), fun k hk => .inl hk⟩
      · by_cases hz : D.left = 0
        · have HV := Lib.hid (HPL.out.2.1 (by rw [HMO.out.1]; omega) hz)
          have hzb : decide (D.left ≠ 0) = false := by simp [hz]
          have HZ := Lib.hid hzb
          clear hzb hz
          go_wp2_with fail
          refine (stepR_any B r D _ n c xs _ (HA.out.mod0 (((Mod.refl Non w).alloc _).drewN _)) l0 l1).mono ?_
          rw [HZ.out]
          rintro e w2 ⟨rfl, hA2, hm2⟩
          have HA2 := Lib.hid hA2
          have HM2 := Lib.hid (((((Mod.refl Non w).alloc (.cells #[.string nm, .int .i64 (ys : Int), .slice yA yb.length yc] 67)).drewN q1)).non.trans hm2 (S := fun k => k = r) fun _ h => .inl h)
          clear hA2 hm2
          go_wp2_with fail
          go_ret
          exact ⟨by rw [HV.out.2]; rfl, E, by rw [HV.out.1]; exact RkIs.of_at HA2.out hE hBE hEl HM2.out, HM2.out, fun k hk => .inl hk⟩
        · have HV := Lib.hid (HPL.out.2.2 (by rw [HMO.out.1]; omega) hz)
          have hzb : decide (D.left ≠ 0) = true := by simp [hz]
          have HZ := Lib.hid hzb
          have HSF : Hid ((stepD D).files = D.files ∧ (stepD D).n = D.n) := by unfold stepD; split <;> exact ⟨rfl, rfl⟩
          clear hzb hz
          go_wp2_with fail
          refine (stepR_any B r D _ n c xs _ (HA.out.mod0 (((Mod.refl Non w).alloc _).drewN _)) l0 l1).mono ?_
          rw [HZ.out]
          rintro e w2 ⟨rfl, hA2, hm2⟩
          have HA2 := Lib.hid hA2
          have hbx : Blk w2 w.heap.size 67 #[.string nm, .int .i64 (ys : Int), .slice yA yb.length yc] := ((Blk.new w _ _).drewN q1).mod hm2 (by omega)
          have M02 := Lib.hid (((((Mod.refl Non w).alloc (.cells #[.string nm, .int .i64 (ys : Int), .slice yA yb.length yc] 67)).drewN q1)).non.trans hm2 (S := fun k => k = r) fun _ h => .inl h)
          have hbl : w.heap.size < w2.heap.size := hbx.lt
          have b2 : w2.cell? ⟨w.heap.size, 2, none⟩ = some (.slice yA yb.length yc) := hbx.cell 2
          have HBX := Lib.hid hbx
          have RD0 : Hid (Rd w2 yA yb.length (by8 yb)) := (((HYB.out.1.alloc _).drewN q1).mod hm2 fun _ g hg e => HA.out.rB (e ▸ HYB.out.2.2.2 g hg))
          obtain ⟨L2, hL2⟩ : ∃ L2, yb ++ b = L2 := ⟨_, rfl⟩
          have HL2 := Lib.hid hL2
          have HK : Hid (yb.length + m = L2.length) := by show _ = _; rw [← hL2, List.length_append, HBL.out]
          have hlb : yb.length ≤ 1099511627776 := by omega
          clear hA2 hm2 hbx hL2
          go_wp2_with (first
            | (at_builtin
               refine wpList_app8 bt _ rfl (.tmp 51) (.tmp 53) rfl w2.heap.size (.slice (some ⟨w2.heap.size, 0, none⟩) 0 0) 0 [] rfl (own_empty w2 5 1) yA yb.length yc yb rfl (RD0.out.alloc _) yb.length (by omega) yb rfl (by omega) (by simp) ?_
               intro pA pc pw phc pown pg pat
               have M2P := Lib.hid (((Mod.refl Non w2).alloc (.cells #[] 5)).trans (Mod.of_grown (S := fun g => (Value.slice (some ⟨w2.heap.size, 0, none⟩) 0 0).ownBlock = some g) pg fun _ h => h) fun g hg => .inr (by simp [Value.ownBlock] at hg; omega))
               have hpz := M2P.out.size
               have prow := pown.lt
               have POWN := Lib.hid pown
               clear pown pg pat b2)
            | (at_builtin
               refine wpList_app8 bt _ rfl (.tmp 54) (.tmp 55) rfl w2.heap.size (.slice pA yb.length pc) yb.length yb rfl POWN.out Bb m cb b rfl ((HG.out.1.mod M02.out HG.out.2).mod0 M2P.out) L2.length HK.out L2 HL2.out (by rw [← HK.out]; omega) (by omega) ?_
               intro qA qc qw qhc qown qg qat
               have M2Q := Lib.hid (M2P.out.trans (Mod.of_grown (S := fun g => (Value.slice pA yb.length pc).ownBlock = some g) qg fun _ h => h) fun g hg => .inr (prow g hg).1)
               have hbq := HBX.out.mod M2Q.out (fun h => h)
               have b0q : qw.cell? ⟨w.heap.size, 0, none⟩ = some (.string nm) := hbq.cell 0
               have b1q : qw.cell? ⟨w.heap.size, 1, none⟩ = some (.int .i64 (ys : Int)) := hbq.cell 1
               have b2q : qw.cell? ⟨w.heap.size, 2, none⟩ = some (.slice yA yb.length yc) := hbq.cell 2
               have f2q := hbq.frozen 2
               have hqz := M2Q.out.size
               have qrow := qown.lt
               have qsl := own_slice qown
               have qbase := Lib.hid (own_base qown)
               have QOWN := Lib.hid qown
               clear qown qg qat hbq))
          have hset : Mod (fun k => k = w.heap.size) qw (qw.setCell ⟨w.heap.size, 2, none⟩ (.slice qA L2.length qc)) := (Mod.refl _ qw).set1 2 _
          have HSET := Lib.hid hset
          have hqc : L2.length ≤ qc ∧ qc ≤ 9223372036854775807 := by
            obtain ⟨A', c', he, h2, h3⟩ := qsl
            injection he with _ _ he
            subst he
            exact ⟨h2, by have : maxLen = 9223372036854775807 := rfl; omega⟩
          clear hset qsl
          refine (put_any ⟨⟨nm, ys, L2⟩, qA, qc⟩ E r (stepD D) _ (((RkIs.of_at HA2.out hE hBE hEl M02.out).mod0 M2Q.out).mod HSET.out (fun k hk e => by have := hEl k hk; omega)) (by rw [HSF.out.1]; exact HOK.out.nd) (by rw [HSF.out.1]; omega) ((Rd.of_own QOWN.out).mod HSET.out fun _ g hg e => by have := qbase.out g hg; omega) hqc.1 hqc.2 (fun g hg => ⟨fun e => by have := qbase.out g hg; omega, by have := (qrow g (by rw [slice_blk]; exact hg)).2; simp [World.setCell]; omega⟩)).mono ?_
          rintro e w3 ⟨rfl, E3, h3, hm3, hE3⟩
          have H3 := Lib.hid h3
          have HM3 := Lib.hid hm3
          have HE3 := Lib.hid hE3
          clear h3 hm3 hE3 b0q b1q b2q f2q
          go_wp2_with fail
          go_ret
          refine ⟨by rw [HV.out.1]; rfl, E3, H3.out.like ?_ ?_ ?_ ?_ ?_, ((M02.out.trans0 M2Q.out).trans HSET.out fun k hk => .inr (by omega)).trans HM3.out fun k hk => .inl hk, fun k hk => ?_⟩
          · rw [HV.out.2.1]; exact HSF.out.2.symm
          · rw [HV.out.2.2.1, HMO.out.2]
            show _ = putF (stepD D).files _
            rw [HSF.out.1, ← HL2.out]
            try rfl
          · exact HV.out.2.2.2.1
          · exact HV.out.2.2.2.2.1
          · exact HV.out.2.2.2.2.2
          · rcases HE3.out k hk with h | h | h
            · exact .inl h
            · exact .inr (by have := qbase.out k h; omega)
            · exact .inr (by simp [World.setCell] at h; omega)
  · have hgo' : D' = D ∧ E' ≠ 0 ∧ ∀ v : Bool, (nb = true → v = decide ((m : Int) ≤ 4096)) → (nb = false → v = false) → rightE v D = E' := by
      rw [← HD.out, ← HEE.out]
      have hn := HN.out
      have hb := HBL.out
      unfold appendD appendE rightE
      cases nb with
      | false => simp [hn]
      | true =>
        by_cases h4 : m ≤ 4096
        · have ho : D.off = true := by
            cases ho : D.off with
            | true => rfl
            | false => exact absurd ⟨rfl, h4, ho⟩ hgo
          have h5 : ((m : Int) ≤ 4096) := by omega
          simp [hn, hb, h4, ho, h5]
        · have h5 : ¬ ((m : Int) ≤ 4096) := by omega
          simp [hn, hb, h4, h5]
    obtain ⟨v1, v2, v3⟩ := hgo'
    have hEb : (E' == 0) = false := by simpa using v2
    have HV1 := Lib.hid v1
    have HV3 := Lib.hid v3
    clear hgo v1 v2 v3
    cases nb with
    | false =>
      go_enter Tryz.func151, Tryz.ntmps151
      go_wp2_with fail
      refine (namedR_any nm _ hs).mono ?_
      rw [HN.out]
      rintro e w1 ⟨rfl, rfl⟩
      go_wp2_with fail
      refine (HR.out false).mono ?_
      rw [HV3.out false (fun h => by cases h) (fun _ => rfl)]
      rintro e w1 ⟨rfl, rfl⟩
      go_wp2_with fail
      go_ret
      exact ⟨rfl, E, by rw [HV1.out]; exact HH.out, Mod.refl _ _, fun k hk => .inl hk⟩
    | true =>
      obtain ⟨v, hv⟩ : ∃ v, decide ((m : Int) ≤ 4096) = v := ⟨_, rfl⟩
      have HVV := Lib.hid hv
      go_enter Tryz.func151, Tryz.ntmps151
      go_wp2_with fail
      refine (namedR_any nm _ hs).mono ?_
      rw [HN.out]
      rintro e w1 ⟨rfl, rfl⟩
      go_wp2_with fail
      clear hv
      refine (HR.out v).mono ?_
      rw [HV3.out v (fun _ => HVV.out.symm) (fun h => by cases h)]
      rintro e w1 ⟨rfl, rfl⟩
      go_wp2_with fail
      go_ret
      exact ⟨rfl, E, by rw [HV1.out]; exact HH.out, Mod.refl _ _, fun k hk => .inl hk⟩

end Go.Proofs.YtdpjnpjmokncdaaGreatDoor

/- The reference's disk: Names, Dump. -/
namespace Go.Proofs.YtdpjnpjmokncdaaGreatDoor
open Go.RowKit

theorem rowStr : ∃ i, Tryz.prog.info? 9 = some i ∧ i.zero = some (.string ⟨#[]⟩) ∧ i.size = 1 ∧ i.bytes = 16 := by
  obtain ⟨i, hi, h1, h2, h3⟩ := info_parts (P := Tryz.prog) (e := 9) (z := .string ⟨#[]⟩) (size := 1) (bytes := 16) (by kernel_rfl)
  exact ⟨i, hi, h1, h2, h3⟩
def strs (l : List ByteArray) : List Value := l.map Value.string
theorem wpList_appStr (w : World) {ops : Array Oper} {rest : List Oper} {o : Oper} {a : Act} {Q : Exit → Act → World → Prop} (hgd : o.guard = none) (s x : Operand)
    (ho : o.op = .call { callee := .builtin .append, args := #[s, x], argTypes := #[40, 40] })
    (base : Nat) (v : Value) (n : Nat) (xs : List ByteArray) (hs : a.eval s = v) (hown : w.ownsRow base 9 1 v n (strs xs))
    (A : Option Addr) (m c : Nat) (news : List ByteArray) (hx : a.eval x = .slice A m c) (hr : Rd w A m (strs news))
    (h63 : n + m ≤ 5000000000000) (hbase : base ≤ w.heap.size)
    (h : ∀ A' c' w', n + m ≤ c' → c' ≤ 9223372036854775807 → w'.ownsRow base 9 1 (.slice A' (n + m) c') (n + m) (strs (xs ++ news)) → w.grownBy w' v.ownBlock → (blkOf A' = v.ownBlock ∨ blkOf A' = some w.heap.size) → wpList Tryz.prog ops Q rest (a.put o.dst (.slice A' (n + m) c')) w') : wpList Tryz.prog ops Q (o :: rest) a w := by
  obtain ⟨i, hi, hz, hs1, hb⟩ := rowStr
  refine wpList_app w hgd s x 40 ho base 9 i (.string ⟨#[]⟩) 16 Tryz.underlying40 hi hz hs1 hb rfl v n (strs xs) hs hown A m c (strs news) hx hr (fun u hu => by obtain ⟨b, _, rfl⟩ := List.mem_map.1 hu; rfl) (by simp only [maxLen]; omega) (by omega) hbase ?_
  intro v' w' hown' hg hat
  obtain ⟨A', c', rfl, hc, hc2⟩ := own_slice hown'
  unfold strs at hown'
  rw [← List.map_append] at hown'
  exact h A' c' w' hc hc2 hown' hg (by cases A' <;> exact hat)
theorem one_str (w : World) (t : TypeId) (x : ByteArray) : Rd (w.alloc (.cells #[.string x] t)) (some ⟨w.heap.size, 0, none⟩) 1 (strs [x]) := by
  refine ⟨rfl, fun _ => ⟨w.heap.size, 0, rfl, fun j u hu => ?_⟩⟩
  match j, hu with
  | 0, hu =>
    simp only [strs, List.map_cons, List.map_nil, List.getElem?_cons_zero, Option.some.injEq] at hu
    subst hu
    simp

set_option maxRecDepth 100000 in
set_option maxHeartbeats 1000000 in
theorem namesR_any (E : Nat → Prop) (r : Nat) (D : Dk) (w : World) (h : RkIs w E r D) (hl : D.files.length ≤ 100000000000) :
    Calls Tryz.prog 110 #[.pointer (some ⟨r, 0, none⟩)] w fun e w' => ∃ A n c L, e = .returned (.slice A n c) ∧ SortedOf D.files L ∧ Rd w' A n (strs (L.map (·.name))) ∧ n ≤ c ∧ c ≤ 9223372036854775807 ∧ (∀ b, blkOf A = some b → w.heap.size ≤ b) ∧ Mod Non w w' := by
  obtain ⟨B, A, n, c, xs, h1, _⟩ := h
  have hlen : xs.length = D.files.length := by have := h1.fs.perm.length_eq; simpa using this
  have hn := h1.len
  have hnc := h1.nc
  have hcm := h1.cm
  have hn2 : n ≤ 100000000000 := by omega
  have c1w : w.cell? ⟨r, 1, none⟩ = some (.slice A n c) := h1.blk.cell 1
  have HN := Lib.hid hn
  have HR0 := Lib.hid h1
  clear hlen hn h1
  go_enter Tryz.func110, Tryz.ntmps110
  go_wp2_with fail
  clear c1w
  go_loopw [3, 4] (fun v i wr => ∃ (k : Nat), k ≤ n ∧ i = .int .i64 k ∧ wr.ownsRow w.heap.size 9 1 v k (strs (((xs.map (·.f)).take k).map (·.name))) ∧ Hid (Mod Non w wr)) (fun _ i _ => n - (intOf i).toNat)
  case atStart => exact ⟨0, Nat.zero_le _, rfl, World.ownsRow_nil _ _ _ _, Mod.refl _ _⟩
  case round =>
    obtain ⟨k, hk, rfl, hown, HM⟩ := hrel
    obtain ⟨Av, cv, rfl, hcv, hcv2⟩ := own_slice hown
    have hrw : w.heap.size ≤ wr.heap.size := HM.out.size
    have HOWN := Lib.hid hown
    have hrow := hown.lt
    clear hown
    by_cases hlt : k < n
    · obtain ⟨b, o, y, rfl, hy, g0, g1, g2⟩ := (HR0.out.mod0 HM.out).row.file hlt
      have HSN : Hid (((xs.map (·.f)).take (k + 1)).map (·.name) = ((xs.map (·.f)).take k).map (·.name) ++ [y.f.name]) := by
        show _ = _
        rw [take_snoc' _ k y.f (by rw [List.getElem?_map, hy]; rfl), List.map_append]; rfl
      obtain ⟨yn, hyn⟩ : ∃ yn, y.f.name = yn := ⟨_, rfl⟩
      rw [hyn] at g0 HSN
      have i1 : (0 : Int) ≤ (k : Int) := by omega
      have i2 : (k : Int) < (n : Int) := by omega
      have c1x : wr.cell? ⟨r, 1, none⟩ = some (.slice (some ⟨b, o, none⟩) n c) := (HR0.out.mod0 HM.out).blk.cell 1
      clear hy hyn g1 g2
      go_wp2_with (at_builtin
                   refine wpList_appStr _ rfl (.tmp 14) (.tmp 23) rfl w.heap.size (.slice Av k cv) k (((xs.map (·.f)).take k).map (·.name)) rfl (HOWN.out.alloc _) _ 1 1 [yn] rfl (one_str _ _ yn) (by omega) (by simp; omega) ?_
                   intro qA qc qw qhc qhcm qown qg qat)
      have MQ : Hid (Mod Non w qw) := (HM.out.alloc _).trans (Mod.of_grown (S := fun g => (Value.slice Av k cv).ownBlock = some g) qg fun _ h => h) fun g hg => .inr (hrow g hg).1
      clear qg qat
      go_roundw
      case rel => exact ⟨k + 1, by omega, by go_num, by rw [HSN.out]; exact qown, MQ.out⟩
      case measure => simp [intOf]; omega
    · obtain rfl : k = n := by omega
      have c1x : wr.cell? ⟨r, 1, none⟩ = some (.slice A k c) := (HR0.out.mod0 HM.out).blk.cell 1
      go_wp2_with fail
      go_ret
      have hr := Rd.of_own HOWN.out
      rw [List.take_of_length_le (by simp [HN.out])] at hr
      have hmx : maxLen = 9223372036854775807 := rfl
      exact ⟨Av, k, cv, xs.map (·.f), rfl, HR0.out.fs, hr, hcv, by omega, own_base HOWN.out, HM.out⟩

/-! append inside a region that draws -/
theorem step_app8 {P : Program} {t e : TypeId} (T : ByteT P t e) (w : World) {ops : Array Oper} {o : Oper} {a : Act} {K : Act → World → Prop} {Q : Exit → Act → World → Prop} {Z : Prop} (hgd : o.guard = none) (s x : Operand)
    (ho : o.op = .call { callee := .builtin .append, args := #[s, x], argTypes := #[t, t] })
    (base : Nat) (v : Value) (n : Nat) (xs : List UInt8) (hs : a.eval s = v) (hown : w.ownsRow base e 1 v n (by8 xs))
    (A : Option Addr) (m c : Nat) (news : List UInt8) (hx : a.eval x = .slice A m c) (hr : Rd w A m (by8 news))
    (k : Nat) (hk : n + m = k) (ys : List UInt8) (hy : xs ++ news = ys)
    (h63 : k ≤ 140737488355328) (hbase : base ≤ w.heap.size)
    (h : ∀ A' c' w', k ≤ c' → w'.ownsRow base e 1 (.slice A' k c') k (by8 ys) → w.grownBy w' v.ownBlock → (blkOf A' = v.ownBlock ∨ blkOf A' = some w.heap.size) → K (a.put o.dst (.slice A' k c')) w') : if Region.wanted o (yielded ops a.tmps) = true then Oper.wp P o a w K Q else Z := by
  obtain ⟨i, hi, hz, hs1, hb⟩ := T.info
  have hw : Region.wanted o (yielded ops a.tmps) = true := by simp [Region.wanted, hgd]
  rw [if_pos hw]
  subst hk
  subst hy
  refine wp_app w s x t ho base e i (.int .u8 0) 1 T.sl hi hz hs1 hb rfl v n (by8 xs) hs hown A m c (by8 news) hx hr (by8_one _) (by simp only [maxLen]; omega) (by omega) hbase ?_
  intro v' w' hown' hg hat
  obtain ⟨A', c', rfl, hc, _⟩ := own_slice hown'
  rw [← by8_append] at hown'
  exact h A' c' w' hc hown' hg (by cases A' <;> exact hat)
theorem step_appF (w : World) {ops : Array Oper} {o : Oper} {a : Act} {K : Act → World → Prop} {Q : Exit → Act → World → Prop} {Z : Prop} (hgd : o.guard = none) (s x : Operand)
    (ho : o.op = .call { callee := .builtin .append, args := #[s, x], argTypes := #[50, 50] })
    (base : Nat) (v : Value) (n : Nat) (xs : List Fc) (hs : a.eval s = v) (hown : w.ownsRow base 67 3 v n (flat3 xs))
    (A : Option Addr) (m c : Nat) (news : List Fc) (hx : a.eval x = .slice A m c) (hr : Rd w A (m * 3) (flat3 news))
    (h63 : n + m ≤ 1000000000000) (hbase : base ≤ w.heap.size)
    (h : ∀ A' c' w', n + m ≤ c' → c' ≤ 9223372036854775807 → w'.ownsRow base 67 3 (.slice A' (n + m) c') (n + m) (flat3 (xs ++ news)) → w.grownBy w' v.ownBlock → (blkOf A' = v.ownBlock ∨ blkOf A' = some w.heap.size) → K (a.put o.dst (.slice A' (n + m) c')) w') : if Region.wanted o (yielded ops a.tmps) = true then Oper.wp Tryz.prog o a w K Q else Z := by
  obtain ⟨i, z, hi, hz, hs1, hb, hzs⟩ := rowF
  have hw : Region.wanted o (yielded ops a.tmps) = true := by simp [Region.wanted, hgd]
  rw [if_pos hw]
  obtain ⟨v', w', hrun, h2, h3, h4⟩ := run_app3 (P := Tryz.prog) w base 50 o.type 67 i z 48 Tryz.underlying50 hi hz hs1 hb hzs v n (flat3 xs) hown A m c (flat3 news) hr (flat3_one _) (by simp only [maxLen]; omega) (by omega) hbase
  obtain ⟨A', c', rfl, hc, hcm⟩ := own_slice h2
  unfold Oper.wp execOp
  simp only [ho, resolve, invoke, builtin, Sem.run_bind, Sem.run_pure, Result.andThen_ok, List.map_toArray, List.map_cons, List.map_nil, hs, hx, hrun]
  rw [← flat3_append] at h2
  exact h A' c' w' hc (by have : maxLen = 9223372036854775807 := rfl; omega) h2 h3 (by cases A' <;> exact h4)

end Go.Proofs.YtdpjnpjmokncdaaGreatDoor

/- What a crash leaves of the files in the order of their names. Plain. -/
namespace Go.Proofs.YtdpjnpjmokncdaaGreatDoor
open Go.RowKit

def crashF (f : Fl) (p : Option Int) : Fl := ⟨f.name, keepC f p, f.bytes.take (keepC f p)⟩
def crashS (picks : List Int) : Nat → List Fl → List Fl
  | _, [] => []
  | k, f :: r => crashF f picks[k]? :: crashS picks (k + 1) r
theorem crashS_names (picks : List Int) : ∀ (k : Nat) (L : List Fl), (crashS picks k L).map (·.name) = L.map (·.name)
  | _, [] => rfl
  | k, f :: r => by rw [crashS, List.map_cons, List.map_cons, crashS_names]; rfl
theorem crashS_get (picks : List Int) : ∀ (L : List Fl) (k i : Nat), (crashS picks k L)[i]? = L[i]?.map fun f => crashF f picks[k + i]?
  | [], _, _ => by simp [crashS]
  | f :: r, k, 0 => by simp [crashS]
  | f :: r, k, i + 1 => by
    rw [crashS, List.getElem?_cons_succ, List.getElem?_cons_succ, crashS_get picks r (k + 1) i, show k + 1 + i = k + (i + 1) by omega]
def notIn (M : List Fl) (nm : ByteArray) : Bool := M.all fun f => decide (f.name ≠ nm)
theorem notIn_iff {M : List Fl} {nm : ByteArray} : notIn M nm = true ↔ nm ∉ M.map (·.name) := by
  unfold notIn
  simp only [List.all_eq_true, decide_eq_true_eq, List.mem_map, not_exists, not_and]
theorem crashL_perm (picks : List Int) : ∀ (M : List Fl) (k : Nat) (D : Dk), (D.files.map (·.name)).Nodup → (M.map (·.name)).Nodup → (∀ f ∈ M, f ∈ D.files) →
    (crashL picks k (M.map (·.name)) D).files.Perm (crashS picks k M ++ D.files.filter fun g => notIn M g.name)
  | [], k, D, _, _, _ => by
    simp only [List.map_nil, crashL, crashS, List.nil_append]
    have e : D.files.filter (fun g => notIn [] g.name) = D.files := List.filter_eq_self.2 fun _ _ => rfl
    rw [e]
  | f :: r, k, D, nd, ndM, hM => by
    rw [List.map_cons] at ndM
    obtain ⟨n1, n2⟩ := List.nodup_cons.1 ndM
    have hf : findF D.files f.name = some f := (find_iff nd).2 ⟨hM f (.head _), rfl⟩
    have h1 : (crash1 D f.name picks[k]?).files = putF D.files (crashF f picks[k]?) := by unfold crash1; rw [hf]; rfl
    have hp : (crash1 D f.name picks[k]?).files.Perm (crashF f picks[k]? :: dropS f.name D.files) := by rw [h1]; exact putF_perm (crashF f picks[k]?) nd
    rw [List.map_cons, crashL, crashS]
    have ih := crashL_perm picks r (k + 1) (crash1 D f.name picks[k]?) (by rw [crash1_names]; exact nd) n2 (fun g hg => hp.mem_iff.2 (.tail _ (List.mem_filter.2 ⟨hM g (.tail _ hg), decide_eq_true fun e => n1 (List.mem_map.2 ⟨g, hg, e⟩)⟩)))
    refine ih.trans ?_
    have h2 := hp.filter fun g => notIn r g.name
    have h3 : (crashF f picks[k]? :: dropS f.name D.files).filter (fun g => notIn r g.name) = crashF f picks[k]? :: D.files.filter fun g => notIn (f :: r) g.name := by
      rw [List.filter_cons_of_pos (p := fun g : Fl => notIn r g.name) (a := crashF f picks[k]?) (l := dropS f.name D.files) (notIn_iff.2 n1)]
      congr 1
      unfold dropS
      rw [List.filter_filter]
      refine List.filter_congr fun g _ => ?_
      show (notIn r g.name && decide (g.name ≠ f.name)) = (decide (f.name ≠ g.name) && notIn r g.name)
      rw [Bool.and_comm]
      congr 1
      exact decide_eq_decide.2 ⟨fun h e => h e.symm, fun h e => h e.symm⟩
    rw [h3] at h2
    refine (h2.append_left (crashS picks (k + 1) r)).trans ?_
    exact List.perm_middle
theorem SortedOf.crash {D : Dk} {L : List Fl} (h : SortedOf D.files L) (nd : (D.files.map (·.name)).Nodup) (picks : List Int) : SortedOf (crashD D picks (L.map (·.name))).files (crashS picks 0 L) := by
  refine ⟨?_, ?_⟩
  · have := crashL_perm picks L 0 D nd (sorted_nodup h.sort) fun f hf => h.perm.mem_iff.1 hf
    rw [List.filter_eq_nil_iff.2 (fun g hg e => notIn_iff.1 e (List.mem_map.2 ⟨g, h.perm.mem_iff.2 hg, rfl⟩)), List.append_nil] at this
    exact this.symm
  · have h1 : (L.map keyF).Pairwise (· < ·) := List.Pairwise.map _ (fun _ _ h => h) h.sort
    have h2 : (crashS picks 0 L).map keyF = L.map keyF := by
      have := congrArg (List.map fun s : ByteArray => s.data.toList) (crashS_names picks 0 L)
      rw [List.map_map, List.map_map] at this
      exact this
    rw [← h2] at h1
    exact List.pairwise_map.1 h1

end Go.Proofs.YtdpjnpjmokncdaaGreatDoor

/- The reference's disk: Dump. -/
namespace Go.Proofs.YtdpjnpjmokncdaaGreatDoor
open Go.RowKit

/-- files that are laid out in a row, readable. -/
def RdF (w : World) (A : Option Addr) (n : Nat) (xs : List Fc) : Prop := Rd w A (n * 3) (flat3 xs) ∧ ∀ x ∈ xs, Rd w x.A x.f.bytes.length (by8 x.f.bytes)
/-- between two rounds of Dump. -/
structure DuM (w : World) (L : List Fl) (ys : List Fc) (k : Nat) (v : Value) (wr : World) : Prop where
  mod : Mod Non w wr
  eq : ys.map (·.f) = L.take k
  rd : ∀ y ∈ ys, Rd wr y.A y.f.bytes.length (by8 y.f.bytes) ∧ ∀ b, blkOf y.A = some b → w.heap.size ≤ b ∧ b < wr.heap.size ∧ v.ownBlock ≠ some b

set_option maxRecDepth 100000 in
set_option maxHeartbeats 2000000 in
theorem dumpR_any (E : Nat → Prop) (r : Nat) (D : Dk) (w : World) (h : RkIs w E r D) (hl : D.files.length ≤ 100000000000) (hu : ∀ f ∈ D.files, f.bytes.length ≤ 1099511627776) :
    Calls Tryz.prog 30 #[.pointer (some ⟨r, 0, none⟩)] w fun e w' => ∃ A n c ys, e = .returned (.slice A n c) ∧ SortedOf D.files (ys.map (·.f)) ∧ RdF w' A n ys ∧ n ≤ c ∧ c ≤ 9223372036854775807 ∧ Mod Non w w' := by
  obtain ⟨B, A, n, c, xs, h1, _⟩ := h
  have hlen : xs.length = D.files.length := by have := h1.fs.perm.length_eq; simpa using this
  have hn := h1.len
  have hnc := h1.nc
  have hcm := h1.cm
  have hn2 : n ≤ 100000000000 := by omega
  have c1w : w.cell? ⟨r, 1, none⟩ = some (.slice A n c) := h1.blk.cell 1
  have HU := Lib.hid (show ∀ y ∈ xs, y.f.bytes.length ≤ 1099511627776 from fun y hy => hu _ (h1.fs.perm.mem_iff.1 (List.mem_map.2 ⟨y, hy, rfl⟩)))
  have HN := Lib.hid hn
  have HR0 := Lib.hid h1
  clear hlen hn h1 hu
  go_enter Tryz.func30, Tryz.ntmps30
  go_wp2_with fail
  clear c1w
  go_loopw [3, 4] (fun v i wr => ∃ (k : Nat) (ys : List Fc), k ≤ n ∧ ys.length = k ∧ i = .int .i64 k ∧ wr.ownsRow w.heap.size 67 3 v k (flat3 ys) ∧ Hid (DuM w (xs.map (·.f)) ys k v wr)) (fun _ i _ => n - (intOf i).toNat)
  case atStart => exact ⟨0, [], Nat.zero_le _, rfl, rfl, World.ownsRow_nil _ _ _ _, ⟨Mod.refl _ _, by simp, by simp⟩⟩
  case round =>
    obtain ⟨k, ys, hk, hyk, rfl, hown, HP⟩ := hrel
    obtain ⟨Av, cv, rfl, hcv, hcv2⟩ := own_slice hown
    have hrw : w.heap.size ≤ wr.heap.size := HP.out.mod.size
    have HOWN := Lib.hid hown
    have HYK := Lib.hid hyk
    have hrow := hown.lt
    clear hown hyk
    by_cases hlt : k < n
    · obtain ⟨b, o, y, rfl, hy, k0, k1, k2⟩ := HR0.out.row.file hlt
      have hym := List.mem_of_getElem? hy
      have hyl := HU.out y hym
      have HYB := Lib.hid (((HR0.out.mod0 HP.out.mod).byt y hym).1)
      have HSN : Hid ((xs.map (·.f)).take (k + 1) = (xs.map (·.f)).take k ++ [y.f]) := take_snoc' _ k y.f (by rw [List.getElem?_map, hy]; rfl)
      obtain ⟨⟨yn, ysf, yb⟩, yA, yc⟩ := y
      simp only at k0 k1 k2 hyl
      have K0 := Lib.hid k0
      have K1 := Lib.hid k1
      have K2 := Lib.hid k2
      have KC := Lib.hid (HR0.out.blk.cell 1)
      have g0 := HP.out.mod.cell k0 (fun h => h)
      have g1 := HP.out.mod.cell k1 (fun h => h)
      have g2 := HP.out.mod.cell k2 (fun h => h)
      clear k0 k1 k2
      have i1 : (0 : Int) ≤ (k : Int) := by omega
      have i2 : (k : Int) < (n : Int) := by omega
      have c1x : wr.cell? ⟨r, 1, none⟩ = some (.slice (some ⟨b, o, none⟩) n c) := (HR0.out.mod0 HP.out.mod).blk.cell 1
      have hrl : r < wr.heap.size := (HR0.out.mod0 HP.out.mod).blk.lt
      have hbl : b < wr.heap.size := World.block_lt_of_cell? wr _ g2
      clear hy hym
      go_wp2_with fail
      go_region_held3 (fun w' => w'.cell? ⟨r, 1, none⟩ = some (.slice (some ⟨b, o, none⟩) n c) ∧ w'.cell? ⟨b, o + k * 3, none⟩ = some (.string yn) ∧ w'.cell? ⟨b, o + k * 3 + 1, none⟩ = some (.int .i64 (ysf : Int)) ∧ w'.cell? ⟨b, o + k * 3 + 2, none⟩ = some (.slice yA yb.length yc))
        (first | exact ⟨c1q, g0q, g1q, g2q⟩ | go_keep)
        (first
          | (refine step_app8 bt _ rfl (.tmp 31) (.tmp 39) rfl wr.heap.size (.slice (some ⟨wr.heap.size, 0, none⟩) 0 0) 0 [] rfl (own_empty wr.drew 5 1) yA yb.length yc yb rfl ((HYB.out.drew).alloc _) yb.length (by omega) yb rfl (by omega) (by simp) ?_
             intro pA pc pw phc pown pg pat
             have MP := Lib.hid ((((Mod.refl Non wr).drew).alloc (.cells #[] 5)).trans (Mod.of_grown (S := fun g => (Value.slice (some ⟨wr.heap.size, 0, none⟩) 0 0).ownBlock = some g) pg fun _ h => h) fun g hg => .inr (by simp [Value.ownBlock] at hg; omega))
             have c1p := MP.out.cell c1x (fun h => h)
             have g0p := MP.out.cell g0 (fun h => h)
             have g1p := MP.out.cell g1 (fun h => h)
             have g2p := MP.out.cell g2 (fun h => h)
             have hpz := MP.out.size
             have POWN := Lib.hid pown
             clear pown pg pat)
          | (refine step_appF _ rfl (.tmp 14) (.tmp 42) rfl w.heap.size (.slice Av k cv) k ys rfl ((own_mod (S := Non) HOWN.out MP.out (fun _ _ h => h)).alloc _) _ 1 1 [⟨⟨yn, ysf, yb⟩, pA, pc⟩] rfl (one_file _ _ ⟨⟨yn, ysf, yb⟩, pA, pc⟩) (by omega) (by simp; omega) ?_
             intro qA qc qw qhc qhcm qown qg qat
             have MQ := Lib.hid ((MP.out.alloc (.cells #[.string yn, .int .i64 (ysf : Int), .slice pA yb.length pc] 67)).non.trans (Mod.of_grown (S := fun g => (Value.slice Av k cv).ownBlock = some g) qg fun _ h => h) (S := fun g => (Value.slice Av k cv).ownBlock = some g) fun _ h => .inl h)
             have MW := Lib.hid (((HP.out.mod.trans0 MP.out).alloc (.cells #[.string yn, .int .i64 (ysf : Int), .slice pA yb.length pc] 67)).trans (Mod.of_grown (S := fun g => (Value.slice Av k cv).ownBlock = some g) qg fun _ h => h) fun g hg => .inr (hrow g hg).1)
             have c1q := MW.out.cell KC.out (fun h => h)
             have g0q := MW.out.cell K0.out (fun h => h)
             have g1q := MW.out.cell K1.out (fun h => h)
             have g2q := MW.out.cell K2.out (fun h => h)
             have MG := Lib.hid (Mod.of_grown (S := fun g => (Value.slice Av k cv).ownBlock = some g) qg fun _ h => h)
             have QOWN := Lib.hid qown
             have QAT := Lib.hid qat
             clear qown qg qat))
      all_goals
        clear c1q g0q g1q g2q c1p g0p g1p g2p
        go_wp2_with fail
        have hpo := own_base POWN.out
        have hplt := POWN.out.lt
        have hsz2 : (pw.alloc (.cells #[.string yn, .int .i64 (ysf : Int), .slice pA yb.length pc] 67)).heap.size = pw.heap.size + 1 := by simp
        have hnew : ∀ g, blkOf qA = some g → (Value.slice Av k cv).ownBlock = some g ∨ pw.heap.size ≤ g := fun g hg => by
          rcases QAT.out with h | h
          · exact .inl (by rw [← h]; exact hg)
          · rw [h] at hg; cases hg; exact .inr (by omega)
        go_roundw
        case rel =>
          refine ⟨k + 1, ys ++ [⟨⟨yn, ysf, yb⟩, pA, pc⟩], by omega, by simp [HYK.out], by go_num, QOWN.out, ⟨MW.out, ?_, ?_⟩⟩
          · rw [HSN.out, List.map_append, HP.out.eq]; rfl
          · intro z hz
            rcases List.mem_append.1 hz with hz | hz
            · obtain ⟨a1, a2⟩ := HP.out.rd z hz
              refine ⟨((a1.mod0 MP.out).alloc _).mod MG.out fun _ g hg e => (a2 g hg).2.2 e, fun g hg => ⟨(a2 g hg).1, by have := (a2 g hg).2.1; have := MP.out.size; have := MG.out.size; omega, fun e => ?_⟩⟩
              rcases hnew g (by rw [slice_blk] at e; exact e) with h | h
              · exact (a2 g hg).2.2 h
              · have := (a2 g hg).2.1; have := MP.out.size; omega
            · simp only [List.mem_singleton] at hz
              subst hz
              refine ⟨((Rd.of_own POWN.out).alloc _).mod MG.out fun _ g hg e => by have := hpo g hg; have := (hrow g e).2; omega, fun g hg => ⟨by have := hpo g hg; omega, by have := (hplt g (by rw [slice_blk]; exact hg)).2; have := MG.out.size; omega, fun e => ?_⟩⟩
              rcases hnew g (by rw [slice_blk] at e; exact e) with h | h
              · have := hpo g hg; have := (hrow g h).2; omega
              · have := (hplt g (by rw [slice_blk]; exact hg)).2; omega
        case measure => simp [intOf]; omega
    · obtain rfl : k = n := by omega
      have c1x : wr.cell? ⟨r, 1, none⟩ = some (.slice A k c) := (HR0.out.mod0 HP.out.mod).blk.cell 1
      go_wp2_with fail
      go_ret
      have heq := HP.out.eq
      rw [List.take_of_length_le (by simp [HN.out])] at heq
      have hmx : maxLen = 9223372036854775807 := rfl
      exact ⟨Av, k, cv, ys, rfl, by rw [heq]; exact HR0.out.fs, ⟨Rd.of_own3 HOWN.out, fun y hy => (HP.out.rd y hy).1⟩, hcv, by omega, HP.out.mod⟩

end Go.Proofs.YtdpjnpjmokncdaaGreatDoor

/- sawyerref04.New; sawyerlaw05.theirs. -/
namespace Go.Proofs.YtdpjnpjmokncdaaGreatDoor
open Go.RowKit

theorem RdF.mod0 {w w' : World} {A : Option Addr} {n : Nat} {xs : List Fc} (h : RdF w A n xs) (hm : Mod Non w w') : RdF w' A n xs := ⟨h.1.mod0 hm, fun x hx => (h.2 x hx).mod0 hm⟩
set_option maxRecDepth 100000 in
set_option maxHeartbeats 400000 in
theorem newR_yes (x : Int) (w : World) (h0 : 0 ≤ x) (h1 : x ≤ 1099511627776) :
    Calls Tryz.prog 95 #[.int .i64 x] w fun e w' => ∃ r E, e = .returned (.tuple #[.pointer (some ⟨r, 0, none⟩), .int .i64 0]) ∧ RkIs w' E r (newD x) ∧ Mod Non w w' ∧ ∀ k, E k → w.heap.size ≤ k := by
  have d0 : decide (x < 0) = false := decide_eq_false (by omega)
  have d1 : decide (1099511627776 < x) = false := decide_eq_false (by omega)
  go_enter Tryz.func95, Tryz.ntmps95
  go_wp2_with fail
  go_ret2
  refine ⟨w.heap.size, fun k => k = w.heap.size, rfl, ⟨fun _ => False, none, 0, 0, [], ⟨Blk.new w _ _, Rd.nil _ _, Nat.le_refl _, by omega, ⟨.refl _, .nil⟩, by simp, fun _ h => by simp [blkOf] at h, fun h => h⟩, rfl, fun _ h => h.elim, fun k hk => by subst hk; simp⟩, (Mod.refl Non w).alloc _, fun k hk => by subst hk; exact Nat.le_refl _⟩

end Go.Proofs.YtdpjnpjmokncdaaGreatDoor

/- disk: Crash, the walk. -/
namespace Go.Proofs.YtdpjnpjmokncdaaGreatDoor
open Go.RowKit

def idxN (v : Value) : Nat := match v with
  | .int _ n => n.toNat
  | _ => 0

theorem keep_num (v : Int) (fs fl : Nat) (h : fs ≤ fl) (hl : fl ≤ 1099511627776) :
    wrap64 ((fs : Int) + wrap64 ((IntKind.u64.wrap v).tmod ((fl : Int) - fs + 1))) = ((fs + (v % 18446744073709551616).toNat % (fl - fs + 1) : Nat) : Int) := by
  rw [IntKind.wrap_u64]
  have h0 : 0 ≤ v % 18446744073709551616 := Int.emod_nonneg _ (by omega)
  obtain ⟨a, ha⟩ := Int.eq_ofNat_of_zero_le h0
  rw [ha]
  have e : (fl : Int) - fs + 1 = ((fl - fs + 1 : Nat) : Int) := by omega
  rw [e, Int.toNat_natCast, ← Int.ofNat_tmod]
  have hlt := Nat.mod_lt a (show 0 < fl - fs + 1 by omega)
  have e2 : wrap64 ((a % (fl - fs + 1) : Nat) : Int) = ((a % (fl - fs + 1) : Nat) : Int) := by unfold wrap64; omega
  rw [e2]
  unfold wrap64
  omega

set_option maxRecDepth 100000 in
set_option maxHeartbeats 2000000 in
theorem crash_any (F : Nat → Prop) (d : Nat) (D : Dk) (A : Option Addr) (n c : Nat) (picks : List Int) (w : World) (h : DiskIs w F d D) (ok : DkOk D) (hp : RdO w F A n (picks.map (Value.int .i64))) (hn : n ≤ 9223372036854775807) :
    Calls Tryz.prog 18 #[.pointer (some ⟨d, 0, none⟩), .slice A n c] w fun e w' => ∃ L, NamesAre D L ∧ DkPost F d (crashD D picks L) (.int .i64 0) w e w' := by
  have HH := Lib.hid h
  obtain ⟨G, m, kvs, hA, hFd, hFm, hGF, hFp, hFl⟩ := h
  have c2 : w.cell? ⟨d, 2, none⟩ = some (.map (some m)) := hA.blk.cell 2
  have HM := Lib.hid (made_yes d m w c2)
  have HA := Lib.hid hA
  have HO := Lib.hid ok
  have HPK := Lib.hid hp
  have hpl : picks.length = n := by simpa using hp.1.1
  have HPL := Lib.hid hpl
  have hdl := hA.blk.lt
  have hml := hA.map.lt
  clear hA ok hp hpl c2
  go_enter Tryz.func18, Tryz.ntmps18
  go_wp2_with (first
    | (go_at_call 48; refine HM.out.mono ?_; rintro e w' ⟨rfl, rfl⟩)
    | (go_at_call 16; refine (names_any F d D _ HH.out HO.out).mono ?_; rintro e w1 ⟨An, nn, cn, L, rfl, hL, hr1, hnn, hcn, hbn, hb1⟩))
  have HL := Lib.hid hL
  have hm1 : Mod Non w w1 := Mod.of_below hb1
  have HM1 := Lib.hid hm1
  have hll : L.length = nn := by simpa using hr1.1
  have HLL := Lib.hid hll
  have HR1 := Lib.hid hr1
  have hs1 := hm1.size
  clear hL hb1 hll hr1 hm1
  go_loopw [15] (fun i wr => ∃ (j : Nat) (kvs' : List (ByteArray × Value)), j ≤ nn ∧ i = .int .i64 j ∧ Hid (DkAt wr G d m kvs' (crashL picks 0 (L.take j) D)) ∧ Hid (Mod (fun k => k = d ∨ k = m) w1 wr)) (fun i _ => nn - idxN i)
  case atStart => exact ⟨0, kvs, Nat.zero_le _, rfl, HA.out.mod0 HM1.out, Mod.refl _ _⟩
  case round =>
    obtain ⟨j, kvs', hj, rfl, HD, HMr⟩ := hrel
    by_cases hlt : j < nn
    · have hrr : Rd wr An nn (L.map Value.string) := HR1.out.mod HMr.out fun _ b hb => by
        have := hbn b hb
        rintro (h | h) <;> omega
      obtain ⟨b, o, rfl, u, hu, hc⟩ := hrr.at_ hlt
      rw [List.getElem?_map] at hu
      cases hx : L[j]? with
      | none => rw [hx] at hu; cases hu
      | some nm =>
        rw [hx] at hu
        simp only [Option.map_some, Option.some.injEq] at hu
        subst hu
        have hmem : nm ∈ (crashL picks 0 (L.take j) D).files.map (·.name) := by
          rw [crashL_names]
          exact names_mem HL.out nm (List.mem_of_getElem? hx)
        obtain ⟨f, hf⟩ := findF_of_name hmem
        have hokj := crashL_ok picks (L.take j) 0 HO.out
        have hsn : Hid (crashL picks 0 (L.take (j + 1)) D = crash1 (crashL picks 0 (L.take j) D) nm picks[j]?) := by
          show _ = _
          rw [take_snoc' L j nm hx, crashL_snoc]
          simp only [List.length_take]
          rw [show 0 + min j L.length = j by rw [HLL.out]; omega]
        obtain ⟨Dj, hDj⟩ : ∃ Dj, crashL picks 0 (L.take j) D = Dj := ⟨_, rfl⟩
        rw [hDj] at hf hokj hsn HD
        obtain ⟨Af, cf, hg, hrf, hcf1, hcf2, hfG, hfn⟩ := found HD.out hf
        obtain ⟨hk1, hk2⟩ := keepC_le (hokj.sf _ (findF_mem hf)) picks[j]?
        have hflen : f.bytes.length ≤ 1099511627776 := by
          have hc := find_cost hf
          have h1 := hokj.us; have h2 := hokj.u1; have h3 := hokj.n1
          unfold costF at hc
          omega
        have hget : (lookKV kvs' nm).getD (.agg #[.string ⟨#[]⟩, .int .i64 0, .slice none 0 0]) = .agg #[.string nm, .int .i64 (f.safe : Int), .slice Af f.bytes.length cf] := by
          unfold gotten at hg
          injection hg with hg
          have := congrArg (fun a : Array Value => a[0]?) hg
          simpa using this
        have HV := Lib.hid hget
        clear hget
        have HHF := Lib.hid hf
        have HRF := Lib.hid hrf
        have HOK := Lib.hid hokj
        have c2r : wr.cell? ⟨d, 2, none⟩ = some (.map (some m)) := HD.out.blk.cell 2
        have hszr := HMr.out.size
        clear hg hf hrf hokj hx hmem hDj hrr
        obtain ⟨fl, hfl⟩ : ∃ fl, f.bytes.length = fl := ⟨_, rfl⟩
        obtain ⟨fs, hfs⟩ : ∃ fs, f.safe = fs := ⟨_, rfl⟩
        rw [hfl] at hk2 hflen hcf1 HRF HV
        rw [hfs] at hk1 HV
        have HFL := Lib.hid hfl
        have HFS := Lib.hid hfs
        clear hfl hfs
        have hpick : Hid (keepC f picks[j]? = match picks[j]? with
          | none => fs
          | some v => fs + (v % 18446744073709551616).toNat % (fl - fs + 1)) := by
          show _ = _
          unfold keepC
          rw [HFL.out, HFS.out]
          all_goals (cases picks[j]? <;> rfl)
        by_cases hpk : j < n
        · have hrp : Rd wr A n (picks.map (Value.int .i64)) := (HPK.out.1.mod0 HM1.out).mod HMr.out fun hn0 pb hb => by
            have := HPK.out.2 hn0 pb hb
            rintro (h | h)
            · exact this (h ▸ hFd)
            · exact this (h ▸ hFm)
          obtain ⟨pb, po, rfl, pu, hpu, hpc⟩ := hrp.at_ hpk
          rw [List.getElem?_map] at hpu
          cases hpx : picks[j]? with
          | none => rw [hpx] at hpu; cases hpu
          | some v =>
            rw [hpx] at hpu hpick hk1 hk2 hsn
            simp only [Option.map_some, Option.some.injEq] at hpu
            subst hpu
            have hkp : Hid (keepC f (some v) = fs + (v % 18446744073709551616).toNat % (fl - fs + 1)) := hpick.out
            clear hrp hpx hpick
            go_wp2_with (first
              | (at_lookup; refine wpList_look _ rfl (.tmp 23) (.tmp 24) false rfl strKey HD.out.map Tryz.underlying77 Tryz.underlying9 (zeroFile _) nm rfl rfl _ HV.out ?_))
            have hbox : Blk (wr.alloc (.cells #[.string nm, .int .i64 (fs : Int), .slice Af fl cf] 58)) wr.heap.size 58 #[.string nm, .int .i64 (fs : Int), .slice Af fl cf] := Blk.new _ _ _
            have hma : Mod Non wr (wr.alloc (.cells #[.string nm, .int .i64 (fs : Int), .slice Af fl cf] 58)) := (Mod.refl Non wr).alloc _
            have hD0 := HD.out.mod0 hma
            generalize wr.alloc (.cells #[.string nm, .int .i64 (fs : Int), .slice Af fl cf] 58) = W0 at *
            have HD0 := Lib.hid hD0
            have HBX := Lib.hid hbox
            have HMA := Lib.hid hma
            have b0 : W0.cell? ⟨wr.heap.size, 0, none⟩ = some (.string nm) := hbox.cell 0
            have b1 : W0.cell? ⟨wr.heap.size, 1, none⟩ = some (.int .i64 (fs : Int)) := hbox.cell 1
            have b2 : W0.cell? ⟨wr.heap.size, 2, none⟩ = some (.slice Af fl cf) := hbox.cell 2
            have hs0 : wr.heap.size < W0.heap.size := hbox.lt
            clear hD0 hbox hma

            have pc : W0.cell? ⟨pb, po + j, none⟩ = some (.int .i64 v) := HMA.out.cell hpc fun h => h
            go_quiet (fail)
            rw [keep_num v fs fl (by omega) hflen, ← hkp.out]
            have hW9 : Mod Non W0 (W0.drewN nq) := (Mod.refl Non W0).drewN nq
            have hbx9 := HBX.out.mod hW9 fun h => h
            have hd9 := HD0.out.mod0 hW9
            have hm9 := HMA.out.trans0 hW9
            clear pc b0 b1 b2 hs0 HBX HD0 hW9 HMA
            generalize W0.drewN nq = W9 at *
            generalize hkpe : keepC f (some v) = kp at *
            have HKP := Lib.hid hkpe
            clear hkpe
            have HD9 := Lib.hid hd9
            have HM9 := Lib.hid hm9
            have HBX9 := Lib.hid hbx9
            have b1 : W9.cell? ⟨wr.heap.size, 1, none⟩ = some (.int .i64 (fs : Int)) := hbx9.cell 1
            have b2 : W9.cell? ⟨wr.heap.size, 2, none⟩ = some (.slice Af fl cf) := hbx9.cell 2
            have d1 : W9.cell? ⟨d, 1, none⟩ = some (.int .i64 Dj.used) := hd9.blk.cell 1
            have d2 : W9.cell? ⟨d, 2, none⟩ = some (.map (some m)) := hd9.blk.cell 2
            have f1 := hd9.blk.frozen 1
            have hu0 := HOK.out.u0
            have hu1 := HOK.out.u1
            have hn1 := HOK.out.n1
            have hcost : (fl : Int) ≤ Dj.used := by
              have hc := find_cost HHF.out
              have := HOK.out.us
              unfold costF at hc
              rw [HFL.out] at hc
              omega
            have q1 : IntKind.i64.wrap ((fl : Int) - (kp : Int)) = (fl : Int) - kp := IntWalk.i64_in _ (by omega)
            have q2 : IntKind.i64.wrap (Dj.used - ((fl : Int) - (kp : Int))) = Dj.used - ((fl : Int) - kp) := IntWalk.i64_in _ (by omega)
            clear hd9 hbx9 hm9
            have hnd : wr.heap.size ≠ d := by omega
            go_wp2_with fail
            go_region
            have hm10 : Mod (fun k => k = d) W9 (W9.setCell ⟨d, 1, none⟩ (.int .i64 (Dj.used - ((fl : Int) - (kp : Int))))).drew := ((Mod.refl _ _).set1 1 _).drew
            have hd10 := ((HD9.out.setUsed (Dj.used - ((fl : Int) - (kp : Int)))).mod0 ((Mod.refl Non _).drew))
            have hbx10 := HBX9.out.mod hm10 hnd
            generalize (W9.setCell ⟨d, 1, none⟩ (.int .i64 (Dj.used - ((fl : Int) - (kp : Int))))).drew = W10 at *
            have HD10 := Lib.hid hd10
            have HM10 := Lib.hid hm10
            have HBX10 := Lib.hid hbx10
            have e2 : W10.cell? ⟨wr.heap.size, 2, none⟩ = some (.slice Af fl cf) := hbx10.cell 2
            have e3 : W10.cell? ⟨d, 2, none⟩ = some (.map (some m)) := hd10.blk.cell 2
            have i1 : (kp : Int) ≤ (cf : Int) := by omega
            have i2 : (0 : Int) ≤ (kp : Int) := by omega
            have i3 : (kp : Int) ≤ (fl : Int) := by omega
            have hnm : wr.heap.size ≠ m := by omega
            have hmd := HD10.out.dm
            clear q1 q2 b1 b2 d1 d2 f1 hd10 hbx10 hm10 HBX9
            go_wp2_with fail
            have tok : True := trivial
            go_region_held3 (fun w' => w'.cell? ⟨d, 2, none⟩ = some (.map (some m)) ∧ w'.cell? ⟨wr.heap.size, 2, none⟩ = some (.slice Af fl cf))
              (first | go_keep)
              (first
                | (have _t := tok
                   obtain ⟨w3, hrun, hp3, hm3⟩ := MapAt.run_put (P := Tryz.prog) strKey (HD10.out.map.mod0' ((Mod.refl Non W10).drew)) Tryz.underlying77 Tryz.underlying9 nm (.agg #[.string nm, .int .i64 (kp : Int), .slice Af kp kp])
                   rw [hrun]
                   clear hrun
                   have c23 := hm3.cell e3 (p := ⟨d, 2, none⟩) (fun e => hmd e)
                   have b23 := hm3.cell e2 (p := ⟨wr.heap.size, 2, none⟩) (fun e => by simp only at e; omega)
                   simp only [Result.andThen, Oper.upon]))
            have hm3' : Mod (fun k => k = m) W10 w3 := ((Mod.refl Non W10).drew).non.trans hm3 (fun _ h => .inl h)
            have htl : (f.bytes.take kp).length = kp := by rw [List.length_take, HFL.out]; omega
            have hfl3 : FlAt w3 G (nm, .agg #[.string nm, .int .i64 (kp : Int), .slice Af kp kp]) ⟨nm, kp, f.bytes.take kp⟩ := by
              refine ⟨rfl, Af, kp, by simp only [htl], ?_, by simp only; omega, by omega, hfG⟩
              simp only [htl]
              have r1 : Rd wr Af kp (by8 (f.bytes.take kp)) := by rw [by8_take]; exact HRF.out.take (by omega)
              have r2 := (r1.mod0 HM9.out).mod HM10.out fun _ b hb e => (HD.out.gd b (hfG b hb)).1 e
              exact r2.mod hm3' fun _ b hb e => (HD.out.gd b (hfG b hb)).2 e
            have hD11 := HD10.out.stored (f := ⟨nm, kp, f.bytes.take kp⟩) (B := w.heap.size) hp3 hm3' (fun k hk => hk) hfl3 (fun k hk => .inl hk) hdl hml
            go_wp2_with fail
            go_roundw
            case rel =>
              refine ⟨j + 1, putKV kvs' nm (.agg #[.string nm, .int .i64 (kp : Int), .slice Af kp kp]), by omega, by go_num, (?_ : DkAt w3 G d m _ _), ?_⟩
              · rw [hsn.out]
                unfold crash1
                rw [HHF.out]
                simp only [HKP.out, HFL.out]
                exact hD11
              · exact ((HMr.out.trans0 HM9.out).trans HM10.out fun k hk => .inl (.inl hk)).trans hm3' fun k hk => .inl (.inr hk)
            case measure => simp [idxN]; omega
        · have hpx : picks[j]? = none := by
            rw [List.getElem?_eq_none]
            rw [HPL.out]
            omega
          rw [hpx] at hpick hk1 hk2 hsn
          have hk0 : keepC f none = fs := hpick.out
          obtain ⟨kp, hkpe⟩ : ∃ kp, keepC f none = kp := ⟨_, rfl⟩
          have HKP := Lib.hid hkpe
          rw [hkpe] at hk1 hk2
          obtain rfl : kp = fs := by omega
          clear hpick hpx hk0 hkpe
          have hpk' : (n : Int) ≤ (j : Int) := by omega
          go_wp2_with (first
            | (at_lookup; refine wpList_look _ rfl (.tmp 23) (.tmp 24) false rfl strKey HD.out.map Tryz.underlying77 Tryz.underlying9 (zeroFile _) nm rfl rfl _ HV.out ?_))
          have hbox : Blk (wr.alloc (.cells #[.string nm, .int .i64 (kp : Int), .slice Af fl cf] 58)) wr.heap.size 58 #[.string nm, .int .i64 (kp : Int), .slice Af fl cf] := Blk.new _ _ _
          have hma : Mod Non wr (wr.alloc (.cells #[.string nm, .int .i64 (kp : Int), .slice Af fl cf] 58)) := (Mod.refl Non wr).alloc _
          have hD0 := HD.out.mod0 hma
          generalize wr.alloc (.cells #[.string nm, .int .i64 (kp : Int), .slice Af fl cf] 58) = W9 at *
          have HD0 := Lib.hid hD0
          have HBX := Lib.hid hbox
          have HMA := Lib.hid hma
          have b0 : W9.cell? ⟨wr.heap.size, 0, none⟩ = some (.string nm) := hbox.cell 0
          have b1 : W9.cell? ⟨wr.heap.size, 1, none⟩ = some (.int .i64 (kp : Int)) := hbox.cell 1
          have b2 : W9.cell? ⟨wr.heap.size, 2, none⟩ = some (.slice Af fl cf) := hbox.cell 2
          have hs0 : wr.heap.size < W9.heap.size := hbox.lt
          clear hD0 hbox hma

          have hbx9 := HBX.out
          have hd9 := HD0.out
          have hm9 := HMA.out
          clear b0 b1 b2 hs0 HBX HD0 HMA
          have HD9 := Lib.hid hd9
          have HM9 := Lib.hid hm9
          have HBX9 := Lib.hid hbx9
          have b1 : W9.cell? ⟨wr.heap.size, 1, none⟩ = some (.int .i64 (kp : Int)) := hbx9.cell 1
          have b2 : W9.cell? ⟨wr.heap.size, 2, none⟩ = some (.slice Af fl cf) := hbx9.cell 2
          have d1 : W9.cell? ⟨d, 1, none⟩ = some (.int .i64 Dj.used) := hd9.blk.cell 1
          have d2 : W9.cell? ⟨d, 2, none⟩ = some (.map (some m)) := hd9.blk.cell 2
          have f1 := hd9.blk.frozen 1
          have hu0 := HOK.out.u0
          have hu1 := HOK.out.u1
          have hn1 := HOK.out.n1
          have hcost : (fl : Int) ≤ Dj.used := by
            have hc := find_cost HHF.out
            have := HOK.out.us
            unfold costF at hc
            rw [HFL.out] at hc
            omega
          have q1 : IntKind.i64.wrap ((fl : Int) - (kp : Int)) = (fl : Int) - kp := IntWalk.i64_in _ (by omega)
          have q2 : IntKind.i64.wrap (Dj.used - ((fl : Int) - (kp : Int))) = Dj.used - ((fl : Int) - kp) := IntWalk.i64_in _ (by omega)
          clear hd9 hbx9 hm9
          have hnd : wr.heap.size ≠ d := by omega
          go_wp2_with fail
          go_region
          have hm10 : Mod (fun k => k = d) W9 (W9.setCell ⟨d, 1, none⟩ (.int .i64 (Dj.used - ((fl : Int) - (kp : Int))))).drew := ((Mod.refl _ _).set1 1 _).drew
          have hd10 := ((HD9.out.setUsed (Dj.used - ((fl : Int) - (kp : Int)))).mod0 ((Mod.refl Non _).drew))
          have hbx10 := HBX9.out.mod hm10 hnd
          generalize (W9.setCell ⟨d, 1, none⟩ (.int .i64 (Dj.used - ((fl : Int) - (kp : Int))))).drew = W10 at *
          have HD10 := Lib.hid hd10
          have HM10 := Lib.hid hm10
          have HBX10 := Lib.hid hbx10
          have e2 : W10.cell? ⟨wr.heap.size, 2, none⟩ = some (.slice Af fl cf) := hbx10.cell 2
          have e3 : W10.cell? ⟨d, 2, none⟩ = some (.map (some m)) := hd10.blk.cell 2
          have i1 : (kp : Int) ≤ (cf : Int) := by omega
          have i2 : (0 : Int) ≤ (kp : Int) := by omega
          have i3 : (kp : Int) ≤ (fl : Int) := by omega
          have hnm : wr.heap.size ≠ m := by omega
          have hmd := HD10.out.dm
          clear q1 q2 b1 b2 d1 d2 f1 hd10 hbx10 hm10 HBX9
          go_wp2_with fail
          have tok : True := trivial
          go_region_held3 (fun w' => w'.cell? ⟨d, 2, none⟩ = some (.map (some m)) ∧ w'.cell? ⟨wr.heap.size, 2, none⟩ = some (.slice Af fl cf))
            (first | go_keep)
            (first
              | (have _t := tok
                 obtain ⟨w3, hrun, hp3, hm3⟩ := MapAt.run_put (P := Tryz.prog) strKey (HD10.out.map.mod0' ((Mod.refl Non W10).drew)) Tryz.underlying77 Tryz.underlying9 nm (.agg #[.string nm, .int .i64 (kp : Int), .slice Af kp kp])
                 rw [hrun]
                 clear hrun
                 have c23 := hm3.cell e3 (p := ⟨d, 2, none⟩) (fun e => hmd e)
                 have b23 := hm3.cell e2 (p := ⟨wr.heap.size, 2, none⟩) (fun e => by simp only at e; omega)
                 simp only [Result.andThen, Oper.upon]))
          have hm3' : Mod (fun k => k = m) W10 w3 := ((Mod.refl Non W10).drew).non.trans hm3 (fun _ h => .inl h)
          have htl : (f.bytes.take kp).length = kp := by rw [List.length_take, HFL.out]; omega
          have hfl3 : FlAt w3 G (nm, .agg #[.string nm, .int .i64 (kp : Int), .slice Af kp kp]) ⟨nm, kp, f.bytes.take kp⟩ := by
            refine ⟨rfl, Af, kp, by simp only [htl], ?_, by simp only; omega, by omega, hfG⟩
            simp only [htl]
            have r1 : Rd wr Af kp (by8 (f.bytes.take kp)) := by rw [by8_take]; exact HRF.out.take (by omega)
            have r2 := (r1.mod0 HM9.out).mod HM10.out fun _ b hb e => (HD.out.gd b (hfG b hb)).1 e
            exact r2.mod hm3' fun _ b hb e => (HD.out.gd b (hfG b hb)).2 e
          have hD11 := HD10.out.stored (f := ⟨nm, kp, f.bytes.take kp⟩) (B := w.heap.size) hp3 hm3' (fun k hk => hk) hfl3 (fun k hk => .inl hk) hdl hml
          go_wp2_with fail
          go_roundw
          case rel =>
            refine ⟨j + 1, putKV kvs' nm (.agg #[.string nm, .int .i64 (kp : Int), .slice Af kp kp]), by omega, by go_num, (?_ : DkAt w3 G d m _ _), ?_⟩
            · rw [hsn.out]
              unfold crash1
              rw [HHF.out]
              simp only [HKP.out, HFL.out]
              exact hD11
            · exact ((HMr.out.trans0 HM9.out).trans HM10.out fun k hk => .inl (.inl hk)).trans hm3' fun k hk => .inl (.inr hk)
          case measure => simp [idxN]; omega
    · obtain rfl : j = nn := by omega
      have hD := HD.out
      rw [List.take_of_length_le (by rw [HLL.out]; omega)] at hD
      have d4 : wr.cell? ⟨d, 4, none⟩ = some (.int .i64 (crashL picks 0 L D).left) := hD.blk.cell 4
      have d5 : wr.cell? ⟨d, 5, none⟩ = some (.bool (crashL picks 0 L D).off) := hD.blk.cell 5
      have f4 := hD.blk.frozen 4
      have f5 := hD.blk.frozen 5
      have HDD := Lib.hid hD
      clear hD
      go_wp2_with fail
      go_ret
      refine ⟨L, HL.out, rfl, dk_fin (F := F) (w := w) ((HDD.out.setOff false).setLeft (-1)) hFd hFm hFp hFl (fun k hk => .inl (hGF k hk)) ?_ HA.out.lay.lt⟩
      refine ((((Mod.refl F w).trans0 HM1.out).trans HMr.out fun k hk => .inl ?_).setCell (p := ⟨d, 5, none⟩) (.inl hFd) _).setCell (p := ⟨d, 4, none⟩) (.inl hFd) _
      rcases hk with rfl | rfl
      · exact hFd
      · exact hFm

end Go.Proofs.YtdpjnpjmokncdaaGreatDoor

/- The program's disk: Dump. -/
namespace Go.Proofs.YtdpjnpjmokncdaaGreatDoor
open Go.RowKit

theorem rowD : ∃ i z, Tryz.prog.info? 58 = some i ∧ i.zero = some z ∧ i.size = 3 ∧ i.bytes = 48 ∧ z.cells.size = 3 := by
  obtain ⟨i, hi, h1, h2, h3⟩ := info_parts (P := Tryz.prog) (e := 58) (z := .agg #[.string ⟨#[]⟩, .int .i64 0, .slice none 0 0]) (size := 3) (bytes := 48) (by kernel_rfl)
  exact ⟨i, _, hi, h1, h2, h3, rfl⟩
theorem wpList_appD (w : World) {ops : Array Oper} {rest : List Oper} {o : Oper} {a : Act} {Q : Exit → Act → World → Prop} (hgd : o.guard = none) (s x : Operand)
    (ho : o.op = .call { callee := .builtin .append, args := #[s, x], argTypes := #[55, 55] })
    (base : Nat) (v : Value) (n : Nat) (xs : List Fc) (hs : a.eval s = v) (hown : w.ownsRow base 58 3 v n (flat3 xs))
    (A : Option Addr) (m c : Nat) (news : List Fc) (hx : a.eval x = .slice A m c) (hr : Rd w A (m * 3) (flat3 news))
    (h63 : n + m ≤ 1000000000000) (hbase : base ≤ w.heap.size)
    (h : ∀ A' c' w', n + m ≤ c' → c' ≤ 9223372036854775807 → w'.ownsRow base 58 3 (.slice A' (n + m) c') (n + m) (flat3 (xs ++ news)) → w.grownBy w' v.ownBlock → (blkOf A' = v.ownBlock ∨ blkOf A' = some w.heap.size) → wpList Tryz.prog ops Q rest (a.put o.dst (.slice A' (n + m) c')) w') : wpList Tryz.prog ops Q (o :: rest) a w := by
  obtain ⟨i, z, hi, hz, hs1, hb, hzs⟩ := rowD
  refine wpList_plain hgd fun K hK => ?_
  obtain ⟨v', w', hrun, h2, h3, h4⟩ := run_app3 (P := Tryz.prog) w base 55 o.type 58 i z 48 Tryz.underlying55 hi hz hs1 hb hzs v n (flat3 xs) hown A m c (flat3 news) hr (flat3_one _) (by simp only [maxLen]; omega) (by omega) hbase
  obtain ⟨A', c', rfl, hc, hcm⟩ := own_slice h2
  unfold Oper.wp execOp
  simp only [ho, resolve, invoke, builtin, Sem.run_bind, Sem.run_pure, Result.andThen_ok, List.map_toArray, List.map_cons, List.map_nil, hs, hx, hrun]
  rw [← flat3_append] at h2
  exact hK _ _ (h A' c' w' hc (by have : maxLen = 9223372036854775807 := rfl; omega) h2 h3 (by cases A' <;> exact h4))

set_option maxRecDepth 100000 in
set_option maxHeartbeats 2000000 in
theorem dump_any (F : Nat → Prop) (d : Nat) (D : Dk) (w : World) (h : DiskIs w F d D) (ok : DkOk D) (nd : (D.files.map (·.name)).Nodup) :
    Calls Tryz.prog 23 #[.pointer (some ⟨d, 0, none⟩)] w fun e w' => ∃ A n c ys, e = .returned (.slice A n c) ∧ SortedOf D.files (ys.map (·.f)) ∧ RdF w' A n ys ∧ n ≤ c ∧ c ≤ 9223372036854775807 ∧ Mod Non w w' := by
  have HH := Lib.hid h
  have HO := Lib.hid ok
  obtain ⟨K, hK⟩ := sorted_of D nd
  obtain ⟨G, m, kvs, hA, hFd, hFm, hGF, hFp, hFl⟩ := h
  have HA := Lib.hid hA
  have hdl := hA.blk.lt
  have HK := Lib.hid hK
  have hfl := files_len ok
  have hkl : K.length = D.files.length := hK.perm.length_eq
  have HND := Lib.hid nd
  clear hA ok hK nd
  go_enter Tryz.func23, Tryz.ntmps23
  go_wp2_with (first
    | (go_at_call 16; refine (names_any F d D _ HH.out HO.out).mono ?_; rintro e w1 ⟨An, nn, cn, L, rfl, hL, hr1, hnn, hcn, hbn, hb1⟩))
  have hLK := HK.out.names hL
  subst hLK
  have HM1 : Hid (Mod Non w w1) := Mod.of_below hb1
  have hll : K.length = nn := by simpa using hr1.1
  have HLL := Lib.hid hll
  have HR1 := Lib.hid hr1
  have hs1 := HM1.out.size
  have hn2 : nn ≤ 100000000000 := by omega
  have hsd : d < w1.heap.size := by omega
  have HD1 := Lib.hid (HA.out.mod0 HM1.out)
  clear hL hb1 hr1 hll hkl
  go_loopw [3, 10] (fun v i wr => ∃ (k : Nat) (ys : List Fc), k ≤ nn ∧ ys.length = k ∧ i = .int .i64 k ∧ wr.ownsRow w1.heap.size 58 3 v k (flat3 ys) ∧ Hid (DuM w1 K ys k v wr)) (fun _ i _ => nn - (intOf i).toNat)
  case atStart => exact ⟨0, [], Nat.zero_le _, rfl, rfl, World.ownsRow_nil _ _ _ _, ⟨Mod.refl _ _, by simp, by simp⟩⟩
  case round =>
    obtain ⟨k, ys, hk, hyk, rfl, hown, HP⟩ := hrel
    obtain ⟨Av, cv, rfl, hcv, hcv2⟩ := own_slice hown
    have hrw : w1.heap.size ≤ wr.heap.size := HP.out.mod.size
    have HOWN := Lib.hid hown
    have HYK := Lib.hid hyk
    have hrow := hown.lt
    clear hown hyk
    by_cases hlt : k < nn
    · have hrr := HR1.out.mod0 HP.out.mod
      obtain ⟨b, o, rfl, u, hu, hc⟩ := hrr.at_ hlt
      rw [List.getElem?_map, List.getElem?_map] at hu
      cases hx : K[k]? with
      | none => rw [hx] at hu; cases hu
      | some f =>
        rw [hx] at hu
        simp only [Option.map_some, Option.some.injEq] at hu
        subst hu
        have hfm : f ∈ D.files := HK.out.perm.mem_iff.1 (List.mem_of_getElem? hx)
        have hf : findF D.files f.name = some f := (find_iff HND.out).2 ⟨hfm, rfl⟩
        have HSN := Lib.hid (take_snoc' K k f hx)
        have HDr := Lib.hid (HD1.out.mod0 HP.out.mod)
        obtain ⟨Af, cf, hg, hrf, hcf1, hcf2, hfG, hfn⟩ := found HDr.out hf
        have hflen : f.bytes.length ≤ 1099511627776 := by
          have hc := find_cost hf
          have h1 := HO.out.us; have h2 := HO.out.u1; have h3 := HO.out.n1
          unfold costF at hc
          omega
        have hget : (lookKV kvs f.name).getD (.agg #[.string ⟨#[]⟩, .int .i64 0, .slice none 0 0]) = .agg #[.string f.name, .int .i64 (f.safe : Int), .slice Af f.bytes.length cf] := by
          unfold gotten at hg
          injection hg with hg
          have := congrArg (fun a : Array Value => a[0]?) hg
          simpa using this
        have HV := Lib.hid hget
        have HRF := Lib.hid hrf
        have d2 : wr.cell? ⟨d, 2, none⟩ = some (.map (some m)) := HDr.out.blk.cell 2
        have hdr : d < wr.heap.size := by omega
        clear hg hf hfn hrr hget hrf hx hfm
        obtain ⟨yn, ysf, yb⟩ := f
        simp only at hc hflen hcf1 HV HRF
        have i1 : (0 : Int) ≤ (k : Int) := by omega
        have i2 : (k : Int) < (nn : Int) := by omega
        go_wp2_with (first
          | (at_lookup; refine wpList_look _ rfl (.tmp 17) (.tmp 18) false rfl strKey HDr.out.map Tryz.underlying77 Tryz.underlying9 (zeroFile _) yn rfl rfl _ HV.out ?_))
        have hbox : Blk (wr.alloc (.cells #[.string yn, .int .i64 (ysf : Int), .slice Af yb.length cf] 58)) wr.heap.size 58 #[.string yn, .int .i64 (ysf : Int), .slice Af yb.length cf] := Blk.new _ _ _
        have hma : Mod Non wr (wr.alloc (.cells #[.string yn, .int .i64 (ysf : Int), .slice Af yb.length cf] 58)) := (Mod.refl Non wr).alloc _
        generalize wr.alloc (.cells #[.string yn, .int .i64 (ysf : Int), .slice Af yb.length cf] 58) = W0 at *
        have HBX := Lib.hid hbox
        have HMA := Lib.hid hma
        have b2 : W0.cell? ⟨wr.heap.size, 2, none⟩ = some (.slice Af yb.length cf) := hbox.cell 2
        have hs0 : wr.heap.size < W0.heap.size := hbox.lt
        clear hbox hma d2
        go_wp2_with fail
        refine (clone_any Af yb.length cf yb _ (HRF.out.mod0 HMA.out) (by omega)).mono ?_
        rintro e W2 ⟨pA, pc, rfl, pown, pb⟩
        have HM2 : Hid (Mod Non W0 W2) := Mod.of_below pb
        have hbx2 := HBX.out.mod HM2.out fun h => h
        have hs2 := HM2.out.size
        have POWN := Lib.hid pown
        have c0 : W2.cell? ⟨wr.heap.size, 2, none⟩ = some (.slice Af yb.length cf) := hbx2.cell 2
        have f2 := hbx2.frozen 2
        have hbx3 := hbx2.set_ 2 (.slice pA yb.length pc)
        have hm3 : Mod (fun k => k = wr.heap.size) W2 (W2.setCell ⟨wr.heap.size, 2, none⟩ (.slice pA yb.length pc)) := (Mod.refl _ _).set1 2 _
        have hz3 : (W2.setCell ⟨wr.heap.size, 2, none⟩ (.slice pA yb.length pc)).heap.size = W2.heap.size := by simp
        have e0 : (W2.setCell ⟨wr.heap.size, 2, none⟩ (.slice pA yb.length pc)).cell? ⟨wr.heap.size, 0, none⟩ = some (.string yn) := hbx3.cell 0
        have e1 : (W2.setCell ⟨wr.heap.size, 2, none⟩ (.slice pA yb.length pc)).cell? ⟨wr.heap.size, 1, none⟩ = some (.int .i64 (ysf : Int)) := hbx3.cell 1
        have e2 : (W2.setCell ⟨wr.heap.size, 2, none⟩ (.slice pA yb.length pc)).cell? ⟨wr.heap.size, 2, none⟩ = some (.slice pA yb.length pc) := hbx3.cell 2
        have HM3 := Lib.hid hm3
        have HOWN3 := Lib.hid (own_mod (own_mod (S := Non) HOWN.out (HMA.out.trans0 HM2.out) (fun _ _ h => h)) HM3.out (fun b hb e => by have := (hrow b hb).2; omega))
        have hone := one_file (W2.setCell ⟨wr.heap.size, 2, none⟩ (.slice pA yb.length pc)) 58 ⟨⟨yn, ysf, yb⟩, pA, pc⟩
        rw [hz3] at hone
        have HONE := Lib.hid hone
        clear b2 hbx2 pb pown hbx3 hm3 hone
        go_wp2_with (first
          | (at_builtin; refine wpList_appD _ rfl (.tmp 24) (.tmp 26) rfl w1.heap.size (.slice Av k cv) k ys rfl (HOWN3.out.alloc _) _ 1 1 [⟨⟨yn, ysf, yb⟩, pA, pc⟩] rfl HONE.out (by omega) (by simp; omega) ?_
             intro qA qc qw qhc qhcm qown qg qat))
        have hpo := own_base POWN.out
        have hplt := POWN.out.lt
        have MB : Mod Non wr ((W2.setCell ⟨wr.heap.size, 2, none⟩ (.slice pA yb.length pc)).alloc (.cells #[.string yn, .int .i64 (ysf : Int), .slice pA yb.length pc] 58)) := ((HMA.out.trans0 HM2.out).trans HM3.out fun k hk => .inr (by omega)).alloc _
        have hsz2 : ((W2.setCell ⟨wr.heap.size, 2, none⟩ (.slice pA yb.length pc)).alloc (.cells #[.string yn, .int .i64 (ysf : Int), .slice pA yb.length pc] 58)).heap.size = W2.heap.size + 1 := by simp
        have hpr := (((Rd.of_own POWN.out).mod HM3.out (fun _ g hg e => by have := hpo g hg; omega)).alloc (.cells #[.string yn, .int .i64 (ysf : Int), .slice pA yb.length pc] 58))
        clear e0 e1 e2
        generalize (W2.setCell ⟨wr.heap.size, 2, none⟩ (.slice pA yb.length pc)).alloc (.cells #[.string yn, .int .i64 (ysf : Int), .slice pA yb.length pc] 58) = W4 at *
        have MG : Mod (fun g => (Value.slice Av k cv).ownBlock = some g) W4 qw := Mod.of_grown qg fun _ h => h
        have MW : Mod Non w1 qw := (HP.out.mod.trans0 MB).trans MG fun g hg => .inr (hrow g hg).1
        have hnew : ∀ g, blkOf qA = some g → (Value.slice Av k cv).ownBlock = some g ∨ W4.heap.size ≤ g := fun g hg => by
          rcases qat with h | h
          · exact .inl (by rw [← h]; exact hg)
          · rw [h] at hg; cases hg; exact .inr (by omega)
        have hq2 := MG.size
        have hq3 := MB.size
        go_roundw
        case rel =>
          refine ⟨k + 1, ys ++ [⟨⟨yn, ysf, yb⟩, pA, pc⟩], by omega, by simp [HYK.out], by go_num, qown, ⟨MW, ?_, ?_⟩⟩
          · rw [HSN.out, List.map_append, HP.out.eq]; rfl
          · intro z hz
            rcases List.mem_append.1 hz with hz | hz
            · obtain ⟨a1, a2⟩ := HP.out.rd z hz
              refine ⟨(a1.mod0 MB).mod MG fun _ g hg e => (a2 g hg).2.2 e, fun g hg => ⟨(a2 g hg).1, by have := (a2 g hg).2.1; omega, fun e => ?_⟩⟩
              rcases hnew g (by rw [slice_blk] at e; exact e) with h | h
              · exact (a2 g hg).2.2 h
              · have := (a2 g hg).2.1; omega
            · simp only [List.mem_singleton] at hz
              subst hz
              refine ⟨hpr.mod MG fun _ g hg e => by have := hpo g hg; have := (hrow g e).2; omega, fun g hg => ⟨by have := hpo g hg; omega, by have := (hplt g (by rw [slice_blk]; exact hg)).2; omega, fun e => ?_⟩⟩
              rcases hnew g (by rw [slice_blk] at e; exact e) with h | h
              · have := hpo g hg; have := (hrow g h).2; omega
              · have := (hplt g (by rw [slice_blk]; exact hg)).2; omega
        case measure => simp [intOf]; omega
    · obtain rfl : k = nn := by omega
      go_wp2_with fail
      go_ret
      have heq := HP.out.eq
      rw [List.take_of_length_le (by rw [HLL.out]; omega)] at heq
      have hmx : maxLen = 9223372036854775807 := rfl
      exact ⟨Av, k, cv, ys, rfl, by rw [heq]; exact HK.out, ⟨Rd.of_own3 HOWN.out, fun y hy => (HP.out.rd y hy).1⟩, hcv, by omega, HM1.out.trans0 HP.out.mod⟩

end Go.Proofs.YtdpjnpjmokncdaaGreatDoor
