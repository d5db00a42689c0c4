/- sawyerref04.Load, the walk. -/
import Derived.Test.YtdpjnpjmokncdaaGreatDoorB29
namespace Go.Proofs.YtdpjnpjmokncdaaGreatDoor
open Go.RowKit

/-- what the reference's Load answers. -/
def LrPost (R : Option Dk) (w : World) (e : Ending) (w' : World) : Prop := match R with
  | some D => ∃ r E, e = .returned (.tuple #[.pointer (some ⟨r, 0, none⟩), .int .i64 0]) ∧ RkIs w' E r D ∧ Mod Non w w' ∧ ∀ k, E k → w.heap.size ≤ k
  | none => ∃ E : Int, e = .returned (.tuple #[.pointer none, .int .i64 E]) ∧ E ≠ 0 ∧ Mod Non w w'

theorem RkIs.used {w : World} {E : Nat → Prop} {r : Nat} {D : Dk} (h : RkIs w E r D) (u : Int) : RkIs w E r { D with used := u } := by
  obtain ⟨B, A, n, c, xs, h1, h2, h3, h4⟩ := h
  exact ⟨B, A, n, c, xs, ⟨h1.blk, h1.row, h1.nc, h1.cm, h1.fs, h1.byt, h1.rowB, h1.rB⟩, h2, h3, h4⟩

set_option maxRecDepth 100000 in
set_option maxHeartbeats 2000000 in
theorem loadR_any (cap : Int) (A : Option Addr) (n c : Nat) (fs : List Fw) (w : World) (h0 : 0 ≤ cap) (h1 : cap ≤ 1099511627776) (hx : Rd w A (n * 3) (flatW fs))
    (hb : ∀ x ∈ fs, Rd w x.A x.bytes.length (by8 x.bytes)) (hz : ∀ x ∈ fs, x.name.size ≤ 140737488351232) (hc : costW fs ≤ 1099511627776) (hn : n ≤ 100000000000) :
    Calls Tryz.prog 60 #[.int .i64 cap, .slice A n c] w (LrPost (loadP cap fs) w) := by
  obtain ⟨R, hR⟩ : ∃ R, loadP cap fs = R := ⟨_, rfl⟩
  rw [hR]
  have HR := Lib.hid hR
  have hlen : fs.length = n := by have := hx.1; rw [flatW_len] at this; omega
  have HLEN := Lib.hid hlen
  have HX := Lib.hid hx
  have HB := Lib.hid hb
  have HC := Lib.hid hc
  have HZ := Lib.hid hz
  have HN := Lib.hid (newR_yes cap w h0 h1)
  clear hR hlen hx hb hc hz
  go_enter Tryz.func60, Tryz.ntmps60
  go_wp2_with (first
    | (go_at_call 95; refine HN.out.mono ?_; rintro e w1 ⟨r, E0, rfl, hRI, hmw, hF⟩))
  have HM1 := Lib.hid hmw
  have HRI := Lib.hid hRI
  have HF := Lib.hid hF
  clear hRI hmw hF
  go_loopw [8] (fun i wr => ∃ (k : Nat) (D : Dk) (E : Nat → Prop), k ≤ n ∧ i = .int .i64 k ∧ Hid (RkIs wr E r D) ∧ Hid (∀ j, E j → w.heap.size ≤ j) ∧ Hid (loadG (newD cap) (fs.take k) = some D) ∧ Hid (Mod Non w wr)) (fun i _ => n - idxN i)
  case atStart => exact ⟨0, newD cap, E0, Nat.zero_le _, rfl, HRI.out, HF.out, rfl, HM1.out⟩
  case round =>
    obtain ⟨k, D, E, hk, rfl, HD, HG, HLG, HM⟩ := hrel
    by_cases hlt : k < n
    · obtain ⟨b, o, x, rfl, hxk, k0, k1, k2⟩ := (HX.out.mod0 HM.out).fileW hlt
      have hbw : b < w.heap.size := by
        obtain ⟨b', o', x', he, _, kk, _⟩ := HX.out.fileW hlt
        cases he
        exact World.block_lt_of_cell? w _ kk
      have hxm := List.mem_of_getElem? hxk
      have hxc := costW_mem hxm
      have hxb : x.name.size ≤ 140737488351232 ∧ x.bytes.length ≤ 1099511627776 := by
        have := HC.out
        have := HZ.out x hxm
        omega
      have HXK := Lib.hid hxk
      have HXB := Lib.hid ((HB.out x hxm).mod0 HM.out)
      have hlok := Lib.hid (loadG_ok (LdOk.start cap) HLG.out)
      obtain ⟨yn, ysf, yb, yA, yc⟩ := x
      simp only at k0 k1 k2 hxb
      obtain ⟨hx1, hx2⟩ := hxb
      have i1 : (0 : Int) ≤ (k : Int) := by omega
      have i2 : (k : Int) < (n : Int) := by omega
      have hbl : b < wr.heap.size := World.block_lt_of_cell? wr _ k2
      have hbad : ∀ (W : World), badW D ⟨yn, ysf, yb, yA, yc⟩ = true → Mod Non wr W → LrPost R w (.returned (.tuple #[.pointer none, .int .i64 1])) W := fun W hbd hW => by
        have := loadP_stop HLG.out HXK.out hbd
        rw [← HR.out, this]
        exact ⟨1, rfl, by omega, HM.out.trans0 hW⟩
      have HBAD := Lib.hid hbad
      clear hbad hxk hxm hxc
      obtain ⟨nb, hnb⟩ : ∃ nb, named yn = nb := ⟨_, rfl⟩
      have HNB := Lib.hid hnb
      have HQN : Hid (∀ W, Calls Tryz.prog 96 #[.string yn] W fun e w' => e = .returned (.bool nb) ∧ w' = W) := fun W => by
        have := namedR_any yn W (by omega)
        rw [HNB.out] at this
        exact this.mono fun _ _ h => ⟨h.1, h.2.symm⟩
      clear hnb
      obtain ⟨hs, hhs⟩ : ∃ hs, (findF D.files yn).isSome = hs := ⟨_, rfl⟩
      have HHS := Lib.hid hhs
      have HQH : Hid (∀ q, Calls Tryz.prog 97 #[.pointer (some ⟨r, 0, none⟩), .string yn] (wr.drewN q) fun e w' => e = .returned (.bool hs) ∧ w' = wr.drewN q) := fun q => by
        have := hasR_any yn E r D (wr.drewN q) (HD.out.mod0 ((Mod.refl Non wr).drewN q)) hlok.out.nd
        rw [HHS.out] at this
        exact this.mono fun _ _ h => ⟨h.1, h.2.symm⟩
      clear hhs
      cases nb with
      | false =>
        go_wp2_with fail
        go_quiet (first | (go_at_call 96; refine Calls.quiet_of_same (HQN.out _)))
        go_wp2_with fail
        go_ret2
        exact HBAD.out _ (by simp [badW, HNB.out]) ((Mod.refl _ _).drewN _)
      | true =>
        cases hs with
        | true =>
          go_wp2_with fail
          go_quiet (first
            | (go_at_call 96; refine Calls.quiet_of_same (HQN.out _))
            | (go_at_call 97; refine Calls.quiet_of_same (HQH.out _)))
          go_wp2_with fail
          go_ret2
          exact HBAD.out _ (by simp [badW, HHS.out]) ((Mod.refl _ _).drewN _)
        | false =>
          by_cases hs1 : ysf < 0
          · have hd1 : decide (ysf < 0) = true := decide_eq_true hs1
            go_wp2_with fail
            go_quiet (first
              | (go_at_call 96; refine Calls.quiet_of_same (HQN.out _))
              | (go_at_call 97; refine Calls.quiet_of_same (HQH.out _)))
            go_wp2_with fail
            go_ret2
            exact HBAD.out _ (by simp [badW, hs1]) ((Mod.refl _ _).drewN _)
          · have hd1 : decide (ysf < 0) = false := decide_eq_false hs1
            by_cases hs2 : (yb.length : Int) < ysf
            · have hd2 : decide ((yb.length : Int) < ysf) = true := decide_eq_true hs2
              go_wp2_with fail
              go_quiet (first
                | (go_at_call 96; refine Calls.quiet_of_same (HQN.out _))
                | (go_at_call 97; refine Calls.quiet_of_same (HQH.out _)))
              go_wp2_with fail
              go_ret2
              exact HBAD.out _ (by simp [badW, hs2]) ((Mod.refl _ _).drewN _)
            · have hd2 : decide ((yb.length : Int) < ysf) = false := decide_eq_false hs2
              go_wp2_with fail
              go_quiet (first
                | (go_at_call 96; refine Calls.quiet_of_same (HQN.out _))
                | (go_at_call 97; refine Calls.quiet_of_same (HQH.out _)))
              go_wp2_with fail
              have hnbd : badW D ⟨yn, ysf, yb, yA, yc⟩ = false := by
                unfold badW
                simp only [HNB.out, HHS.out, Bool.not_true, Bool.false_or, Bool.or_eq_false_iff, decide_eq_false_iff_not]
                exact ⟨by omega, by omega⟩
              have HNBD := Lib.hid hnbd
              obtain ⟨s, rfl⟩ : ∃ s : Nat, ysf = s := ⟨ysf.toNat, by omega⟩
              have hmq : Mod Non wr (wr.drewN nq) := (Mod.refl Non wr).drewN nq
              generalize wr.drewN nq = W at *
              have HMQ := Lib.hid hmq
              have K0 := Lib.hid (hmq.cell k0 (fun h => h))
              have K1 := Lib.hid (hmq.cell k1 (fun h => h))
              have K2 := Lib.hid (hmq.cell k2 (fun h => h))
              have g0 := K0.out
              have g1 := K1.out
              have g2 := K2.out
              have hrE : E r ∧ r < wr.heap.size := by
                obtain ⟨B, A2, n2, c2, xs2, hat, hE, hBE, hEl⟩ := HD.out
                exact ⟨hE, hEl r hE⟩
              have hrw := HG.out r hrE.1
              have hbr : b < W.heap.size := Nat.lt_of_lt_of_le hbl hmq.size
              have hszq := hmq.size
              have hrE2 := hrE.2
              have hfl : D.files.length ≤ 100000000000 := by
                have := hlok.out.len
                rw [List.nil_append, List.length_take] at this
                omega
              clear hnbd hmq k0 k1 k2 hd1 hd2 hrE
              go_region_held3 (fun w' => w'.cell? ⟨b, o + k * 3, none⟩ = some (.string yn) ∧ w'.cell? ⟨b, o + k * 3 + 1, none⟩ = some (.int .i64 (s : Int)) ∧ w'.cell? ⟨b, o + k * 3 + 2, none⟩ = some (.slice yA yb.length yc))
                (first | exact ⟨g0q, g1q, g2q⟩ | go_keep)
                (first
                  | (refine step_app8 bt _ rfl (.tmp 72) (.tmp 77) rfl W.heap.size (.slice (some ⟨W.heap.size, 0, none⟩) 0 0) 0 [] rfl (own_empty W.drew 5 1) yA yb.length yc yb rfl (((HXB.out.mod0 HMQ.out).drew).alloc _) yb.length (by omega) yb rfl (by omega) (by simp) ?_
                     intro pA pc pw phc pown pg pat
                     have MP := Lib.hid ((((Mod.refl Non W).drew).alloc (.cells #[] 5)).trans (Mod.of_grown (S := fun g => (Value.slice (some ⟨W.heap.size, 0, none⟩) 0 0).ownBlock = some g) pg fun _ h => h) fun g hg => .inr (by simp [Value.ownBlock] at hg; omega))
                     have g0p := MP.out.cell g0 (fun h => h)
                     have g1p := MP.out.cell g1 (fun h => h)
                     have g2p := MP.out.cell g2 (fun h => h)
                     have hpz := MP.out.size
                     have POWN := Lib.hid pown
                     clear pown pg pat)
                  | (go_at_call 98
                     refine (put_any ⟨⟨yn, s, yb⟩, pA, pc⟩ E r D pw ((HD.out.mod0 HMQ.out).mod0 MP.out) hlok.out.nd hfl (Rd.of_own POWN.out) (by obtain ⟨_, _, he, h1, h2⟩ := own_slice POWN.out; cases he; exact h1) (by obtain ⟨_, _, he, h1, h2⟩ := own_slice POWN.out; cases he; have hm : maxLen = 9223372036854775807 := rfl; show pc ≤ _; omega) (fun g hg => ⟨by have := own_base POWN.out g hg; omega, (POWN.out.lt g (by rw [slice_blk]; exact hg)).2⟩)).mono ?_
                     rintro e qw ⟨rfl, E', hR3, hm3, hE3⟩
                     have g0q := hm3.cell g0p (p := ⟨b, o + k * 3, none⟩) (fun e => by have e : b = r := e; omega)
                     have g1q := hm3.cell g1p (p := ⟨b, o + k * 3 + 1, none⟩) (fun e => by have e : b = r := e; omega)
                     have g2q := hm3.cell g2p (p := ⟨b, o + k * 3 + 2, none⟩) (fun e => by have e : b = r := e; omega)))
              all_goals
                go_wp2_with fail
                have hm9 : Mod Non w qw := ((HM.out.trans0 HMQ.out).trans0 MP.out).trans hm3 fun j hj => .inr (by omega)
                have hlg9 : loadG (newD cap) (fs.take (k + 1)) = some (addW D ⟨yn, s, yb, yA, yc⟩) := by
                  rw [take_snoc' fs k _ HXK.out, loadG_append, HLG.out]
                  show loadG D [_] = _
                  rw [loadG, if_neg (by rw [HNBD.out]; exact Bool.noConfusion)]
                  rfl
                have hr9 : RkIs qw E' r (addW D ⟨yn, s, yb, yA, yc⟩) := hR3.used _
                have hwm := HM.out.size
                have hpo := own_base POWN.out
                go_roundw
                case rel =>
                  refine ⟨k + 1, _, E', by omega, by go_num, hr9, ?_, hlg9, hm9⟩
                  intro j hj
                  rcases hE3 j hj with h | h | h
                  · exact HG.out j h
                  · have := hpo j h; omega
                  · omega
                case measure => simp [idxN]; omega
    · obtain rfl : k = n := by omega
      have hlg := HLG.out
      rw [List.take_of_length_le (by rw [HLEN.out]; omega)] at hlg
      have hlok := loadG_ok (LdOk.start cap) hlg
      have hus := hlok.us
      have hud := hlok.used
      have hcn := hlok.n
      rw [List.nil_append] at hud
      have hcc := HC.out
      have HLG2 := Lib.hid hlg
      obtain ⟨B, A2, n2, c2, xs2, hat, hE, hBE, hEl⟩ := HD.out
      have HAT := Lib.hid hat
      clear hlg hlok hat
      by_cases hu : cap < D.used
      · have hd1 : decide (D.n - usedF D.files < 0) = true := decide_eq_true (by omega)
        go_wp2_with fail
        refine (freeR_any B r D A2 n2 c2 xs2 wr HAT.out (by omega) (by omega) (by omega)).mono ?_
        rintro e w' ⟨rfl, q, rfl⟩
        go_wp2_with fail
        go_ret2
        rw [← HR.out, loadP_full HLG2.out hu]
        exact ⟨4, rfl, by omega, HM.out.drewN _⟩
      · have hd1 : decide (D.n - usedF D.files < 0) = false := decide_eq_false (by omega)
        go_wp2_with fail
        refine (freeR_any B r D A2 n2 c2 xs2 wr HAT.out (by omega) (by omega) (by omega)).mono ?_
        rintro e w' ⟨rfl, q, rfl⟩
        go_wp2_with fail
        go_ret2
        rw [← HR.out, loadP_done HLG2.out (by omega)]
        exact ⟨r, E, rfl, HD.out.mod0 ((Mod.refl Non wr).drewN q), HM.out.drewN _, HG.out⟩

end Go.Proofs.YtdpjnpjmokncdaaGreatDoor

/- law11.both, the walk. -/
namespace Go.Proofs.YtdpjnpjmokncdaaGreatDoor
open Go.RowKit

theorem Rd.of_ownW {w : World} {A : Option Addr} {n base : Nat} {e : TypeId} {c : Nat} {vs : List Value} (h : w.ownsRow base e 3 (.slice A n c) n vs) : Rd w A (n * 3) vs := Rd.of_own3 h

/-- what both answers. -/
def BoPost (R : Option Dk) (w : World) (e : Ending) (w' : World) : Prop := match R with
  | some D => ∃ d F r E, e = .returned (.tuple #[.pointer (some ⟨d, 0, none⟩), .pointer (some ⟨r, 0, none⟩)]) ∧ DiskIs w' F d D ∧ RkIs w' E r D ∧ Mod Non w w' ∧ (∀ k, F k → w.heap.size ≤ k ∧ ¬ E k) ∧ ∀ k, E k → w.heap.size ≤ k
  | none => e = .returned (.tuple #[.pointer none, .pointer none]) ∧ Mod Non w w'

set_option maxRecDepth 100000 in
set_option maxHeartbeats 2000000 in
theorem both_any (cap : Int) (A : Option Addr) (n c : Nat) (fs : List Fw) (w : World) (hL : Lay w) (h0 : 0 ≤ cap) (h1 : cap ≤ 1099511627776) (hx : Rd w A (n * 3) (flatW fs))
    (hb : ∀ x ∈ fs, Rd w x.A x.bytes.length (by8 x.bytes)) (hz : ∀ x ∈ fs, x.name.size ≤ 140737488351232) (hc : costW fs ≤ 1099511627776) (hn : n ≤ 100000000000) :
    Calls Tryz.prog 21 #[.int .i64 cap, .slice A n c] w (BoPost (loadP cap fs) w) := by
  obtain ⟨R, hR⟩ : ∃ R, loadP cap fs = R := ⟨_, rfl⟩
  rw [hR]
  have HR := Lib.hid hR
  have hlen : fs.length = n := by have := hx.1; rw [flatW_len] at this; omega
  have HN := Lib.hid hlen
  have HX := Lib.hid hx
  have HB := Lib.hid hb
  have HZ := Lib.hid hz
  have HL := Lib.hid hL
  clear hR hlen hx hb hL hz
  go_enter Tryz.func21, Tryz.ntmps21
  go_wp2_with fail
  go_loopw [6, 7] (fun v i wr => ∃ (k : Nat), k ≤ n ∧ i = .int .i64 k ∧ wr.ownsRow w.heap.size 58 3 v k (flatW (fs.take k)) ∧ Hid (Mod Non w wr)) (fun _ i _ => n - (intOf i).toNat)
  case atStart => exact ⟨0, Nat.zero_le _, rfl, World.ownsRow_nil _ _ _ _, Mod.refl _ _⟩
  case round =>
    obtain ⟨k, hk, rfl, hown, HM⟩ := hrel
    obtain ⟨Av, cv, rfl, hcv, hcv2⟩ := own_slice hown
    have hrw : w.heap.size ≤ wr.heap.size := HM.out.size
    have HOWN := Lib.hid hown
    have hrow := hown.lt
    clear hown
    by_cases hlt : k < n
    · obtain ⟨b, o, y, rfl, hy, k0, k1, k2⟩ := HX.out.fileW hlt
      have HSN := Lib.hid (take_snoc' fs k y hy)
      obtain ⟨yn, ysf, yb, yA, yc⟩ := y
      simp only at k0 k1 k2
      have K0 := Lib.hid k0
      have K1 := Lib.hid k1
      have K2 := Lib.hid k2
      have g0 := HM.out.cell k0 (fun h => h)
      have g1 := HM.out.cell k1 (fun h => h)
      have g2 := HM.out.cell k2 (fun h => h)
      have i1 : (0 : Int) ≤ (k : Int) := by omega
      have i2 : (k : Int) < (n : Int) := by omega
      have hbl : b < wr.heap.size := World.block_lt_of_cell? wr _ g2
      clear hy k0 k1 k2
      go_wp2_with fail
      go_region_held3 (fun w' => w'.cell? ⟨b, o + k * 3, none⟩ = some (.string yn) ∧ w'.cell? ⟨b, o + k * 3 + 1, none⟩ = some (.int .i64 ysf) ∧ w'.cell? ⟨b, o + k * 3 + 2, none⟩ = some (.slice yA yb.length yc))
        (first | exact ⟨g0q, g1q, g2q⟩ | go_keep)
        (first
          | (refine step_appW _ rfl (.tmp 18) (.tmp 35) rfl w.heap.size (.slice Av k cv) k (fs.take k) rfl ((own_mod (S := Non) HOWN.out ((Mod.refl Non wr).drew) (fun _ _ h => h)).alloc _) _ 1 1 [⟨yn, ysf, yb, yA, yc⟩] rfl (one_fileW _ _ ⟨yn, ysf, yb, yA, yc⟩) (by omega) (by simp; omega) ?_
             intro qA qc qw qhc qhcm qown qg qat
             have MW := Lib.hid ((HM.out.drew.alloc (.cells #[.string yn, .int .i64 ysf, .slice yA yb.length yc] 58)).trans (Mod.of_grown (S := fun g => (Value.slice Av k cv).ownBlock = some g) qg fun _ h => h) fun g hg => .inr (hrow g hg).1)
             have g0q := MW.out.cell K0.out (fun h => h)
             have g1q := MW.out.cell K1.out (fun h => h)
             have g2q := MW.out.cell K2.out (fun h => h)
             have QOWN := Lib.hid qown
             clear qown qg qat))
      all_goals
        clear g0q g1q g2q
        go_wp2_with fail
        go_roundw
        case rel => exact ⟨k + 1, by omega, by go_num, by rw [HSN.out]; exact QOWN.out, MW.out⟩
        case measure => simp [intOf]; omega
    · obtain rfl : k = n := by omega
      have hr := Rd.of_ownW HOWN.out
      rw [List.take_of_length_le (by rw [HN.out]; omega)] at hr
      have hld := Lib.hid (load_any cap Av k cv fs wr (HL.out.mod0 HM.out) h0 h1 hr (fun x hx => (HB.out x hx).mod0 HM.out) HZ.out hc hn)
      rw [HR.out] at hld
      clear hr
      go_wp2_with fail
      refine hld.out.mono ?_
      intro e w2 h2
      cases R with
      | some D =>
        obtain ⟨d, F, rfl, hd, hm2, hF⟩ := h2
        have HD := Lib.hid hd
        have HM2 := Lib.hid hm2
        have HF := Lib.hid hF
        have hlr := Lib.hid (loadR_any cap A k c fs w2 h0 h1 ((HX.out.mod0 HM.out).mod0 hm2) (fun x hx => ((HB.out x hx).mod0 HM.out).mod0 hm2) HZ.out hc hn)
        rw [HR.out] at hlr
        clear hd hm2 hF hld
        go_wp2_with fail
        refine hlr.out.mono ?_
        rintro e w3 ⟨r, E, rfl, hr, hm3, hE⟩
        have HRK := Lib.hid hr
        have HM3 := Lib.hid hm3
        have HE := Lib.hid hE
        clear hr hm3 hE hlr
        go_wp2_with fail
        go_ret2
        have hFl : ∀ j, F j → j < w2.heap.size := by
          obtain ⟨_, _, _, _, _, _, _, _, hl⟩ := HD.out
          exact hl
        have hz2 := HM2.out.size
        exact ⟨d, F, r, E, rfl, HD.out.mod0 HM3.out, HRK.out, (HM.out.trans0 HM2.out).trans0 HM3.out, fun j hj => ⟨by have := HF.out j hj; omega, fun e => by have := HE.out j e; have := hFl j hj; omega⟩, fun j hj => by have := HE.out j hj; omega⟩
      | none =>
        obtain ⟨e1, rfl, he1, hm2⟩ := h2
        have HM2 := Lib.hid hm2
        have hlr := Lib.hid (loadR_any cap A k c fs w2 h0 h1 ((HX.out.mod0 HM.out).mod0 hm2) (fun x hx => ((HB.out x hx).mod0 HM.out).mod0 hm2) HZ.out hc hn)
        rw [HR.out] at hlr
        have hq1 : (e1 == 0) = false := by simp [he1]
        clear hm2 hld
        go_wp2_with fail
        refine hlr.out.mono ?_
        rintro e w3 ⟨e2, rfl, he2, hm3⟩
        have HM3 := Lib.hid hm3
        clear hm3 hlr
        go_wp2_with fail
        go_ret2
        exact ⟨rfl, (HM.out.trans0 HM2.out).trans0 HM3.out⟩

end Go.Proofs.YtdpjnpjmokncdaaGreatDoor
