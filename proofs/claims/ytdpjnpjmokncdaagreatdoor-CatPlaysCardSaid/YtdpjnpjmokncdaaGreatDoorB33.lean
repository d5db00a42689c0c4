/- edit.Decode. -/
import Derived.Test.YtdpjnpjmokncdaaGreatDoorB31
import Derived.Deep.RegionHeld3
import Derived.Deep.RegionLaw
namespace Go.Proofs.YtdpjnpjmokncdaaGreatDoor
open Go.RowKit

set_option maxRecDepth 100000 in
set_option maxHeartbeats 8000000 in
theorem decode_any (A : Option Addr) (n c : Nat) (l : List UInt8) (w : World) (h : Rd w A n (by8 l)) (hnc : n ≤ c) (hcm : c ≤ 9223372036854775807) (hn : n ≤ 140737488351232) :
    Calls Tryz.prog 46 #[.slice A n c] w (DePost l w) := by
  obtain ⟨g1, s1, h1⟩ : ∃ g s, numP ⟨l, false⟩ = (g, s) := ⟨_, _, rfl⟩
  obtain ⟨g2, s2, h2⟩ : ∃ g s, numP s1 = (g, s) := ⟨_, _, rfl⟩
  obtain ⟨g3, s3, h3⟩ : ∃ g s, numP s2 = (g, s) := ⟨_, _, rfl⟩
  obtain ⟨g4, s4, h4⟩ : ∃ g s, numP s3 = (g, s) := ⟨_, _, rfl⟩
  obtain ⟨g5, s5, h5⟩ : ∃ g s, numP s4 = (g, s) := ⟨_, _, rfl⟩
  obtain ⟨T, hT⟩ : ∃ T, tabsP 4097 g5 s5 [] = T := ⟨_, rfl⟩
  have hpv : parseV l = (⟨g1, g2, g3, g4, T.1⟩, T.2) := by
    unfold parseV
    simp only
    rw [h1]
    simp only
    rw [h2]
    simp only
    rw [h3]
    simp only
    rw [h4]
    simp only
    rw [h5]
    simp only
    rw [hT]
  have hb5 := numP_bd s4
  rw [h5] at hb5
  obtain ⟨hg1, hg2⟩ := hb5
  simp only at hg1 hg2
  obtain ⟨rb, hrb⟩ : ∃ rb, w.heap.size + 1 = rb := ⟨_, rfl⟩
  have hrs : RsAt ((w.alloc (.cells #[.int .i64 0, .int .i64 0, .int .i64 0, .int .i64 0, .slice none 0 0] 34)).alloc (.cells #[.slice A n c, .bool false] 146)) rb ⟨l, false⟩ A n c := by
    rw [← hrb]
    refine ⟨?_, (h.alloc _).alloc _, hnc, hcm, fun h0 b hb e => ?_, hn⟩
    · have := Blk.new (w.alloc (.cells #[.int .i64 0, .int .i64 0, .int .i64 0, .int .i64 0, .slice none 0 0] 34)) 146 #[.slice A n c, .bool false]
      rw [World.size_alloc] at this
      exact this
    · obtain ⟨b', hb', hl⟩ := h.lt h0
      rw [hb] at hb'
      cases hb'
      omega
  have hrz : Blk ((w.alloc (.cells #[.int .i64 0, .int .i64 0, .int .i64 0, .int .i64 0, .slice none 0 0] 34)).alloc (.cells #[.slice A n c, .bool false] 146)) w.heap.size 34 #[.int .i64 0, .int .i64 0, .int .i64 0, .int .i64 0, .slice none 0 0] := (Blk.new _ _ _).alloc _
  have hm0 : Mod Non w ((w.alloc (.cells #[.int .i64 0, .int .i64 0, .int .i64 0, .int .i64 0, .slice none 0 0] 34)).alloc (.cells #[.slice A n c, .bool false] 146)) := ((Mod.refl Non w).alloc _).alloc _
  have HRS := Lib.hid hrs
  have HRZ := Lib.hid hrz
  have HM0 := Lib.hid hm0
  have H0 := Lib.hid h
  have HPV := Lib.hid hpv
  have HT := Lib.hid hT
  have H1 := Lib.hid h1
  have H2 := Lib.hid h2
  have H3 := Lib.hid h3
  have H4 := Lib.hid h4
  have H5 := Lib.hid h5
  have hnum : ∀ s g s', numP s = (g, s') → ∀ rb A n c W, RsAt W rb s A n c → Calls Tryz.prog 85 #[.pointer (some ⟨rb, 0, none⟩)] W (RsPost rb s' (.int .i64 g) W) := fun s g s' hh rb A n c W hW => by
    have := num_any rb s A n c W hW
    rw [hh] at this
    exact this
  have HNUM := Lib.hid hnum
  have htxt : ∀ s g s', textP s = (g, s') → ∀ rb A n c W, RsAt W rb s A n c → Calls Tryz.prog 86 #[.pointer (some ⟨rb, 0, none⟩)] W (fun e w' => ∃ T ct, e = .returned (.slice T g.length ct) ∧ Rd w' T g.length (by8 g) ∧ g.length ≤ ct ∧ ct ≤ 9223372036854775807 ∧ (∀ b, blkOf T = some b → W.heap.size ≤ b) ∧ ∃ A n c, RsAt w' rb s' A n c ∧ Mod (fun k => k = rb) W w' ∧ (0 < n → ∀ b, blkOf A = some b → W.heap.size ≤ b)) := fun s g s' hh rb A n c W hW => by
    have := text_any rb s A n c W hW
    unfold TxPost at this
    rw [hh] at this
    exact this
  have HTXT := Lib.hid htxt
  clear h h1 h2 h3 h4 h5 hT hpv hrs hrz hm0 hnum htxt
  go_enter Tryz.func46, Tryz.ntmps46
  go_wp2_with fail
  have HRB := Lib.hid hrb
  clear hrb
  refine (HNUM.out _ _ _ H1.out _ _ _ _ _ HRS.out).mono ?_
  rintro e w1 ⟨rfl, A1, n1, c1, hr1, hm1, -⟩
  have HR1 := Lib.hid hr1
  have HM1 := Lib.hid hm1
  clear hr1 hm1
  go_wp2_with fail
  refine (HNUM.out _ _ _ H2.out _ _ _ _ _ HR1.out).mono ?_
  rintro e w2 ⟨rfl, A2, n2, c2, hr2, hm2, -⟩
  have HR2 := Lib.hid hr2
  have HM2 := Lib.hid (HM1.out.trans hm2 fun _ h => .inl h)
  clear hr2 hm2
  go_wp2_with fail
  refine (HNUM.out _ _ _ H3.out _ _ _ _ _ HR2.out).mono ?_
  rintro e w3 ⟨rfl, A3, n3, c3, hr3, hm3, -⟩
  have HR3 := Lib.hid hr3
  have HM3 := Lib.hid (HM2.out.trans hm3 fun _ h => .inl h)
  clear hr3 hm3
  go_wp2_with fail
  refine (HNUM.out _ _ _ H4.out _ _ _ _ _ HR3.out).mono ?_
  rintro e w4 ⟨rfl, A4, n4, c4, hr4, hm4, -⟩
  have HM4 := Lib.hid (HM3.out.trans hm4 fun _ h => .inl h)
  have hm4a : Mod Non w4 (w4.alloc (.cells #[.int .i64 g1, .int .i64 g2, .int .i64 g3, .int .i64 g4, .slice none 0 0] 34)) := (Mod.refl Non w4).alloc _
  have HR4 := Lib.hid (hr4.mod hm4a (fun h => h) (fun _ => Off.non _))
  have HM4A := Lib.hid hm4a
  have HVB := Lib.hid (Blk.new w4 34 #[.int .i64 g1, .int .i64 g2, .int .i64 g3, .int .i64 g4, .slice none 0 0])
  have HRV := Lib.hid hr4.blk.lt
  clear hr4 hm4 hm4a
  go_wp2_with fail
  refine (HNUM.out _ _ _ H5.out _ _ _ _ _ HR4.out).mono ?_
  rintro e w5 ⟨rfl, A5, n5, c5, hr5, hm5, -⟩
  have HR5 := Lib.hid hr5
  have HM5 := Lib.hid hm5
  clear hr5 hm5
  have hrv : rb < w4.heap.size := HRV.out
  have HM5w := Lib.hid (((HM0.out.trans HM4.out fun i h => .inr (by rw [h, ← HRB.out]; omega)).trans0 HM4A.out).trans HM5.out fun i h => .inr (by rw [h, ← HRB.out]; omega))
  have hsz5 : w4.heap.size < w5.heap.size := by have := HM5.out.size; rw [World.size_alloc] at this; omega
  have hp0 : DeM w5 rb w4.heap.size g1 g2 g3 g4 T 0 g5 w5 none 0 [] s5 A5 n5 c5 :=
    ⟨Mod.refl _ _, HVB.out.mod HM5.out (by omega), HR5.out, World.ownsRow_nil _ _ _ _, rfl, (fun m hm => by cases hm), HT.out⟩
  have HP0 := Lib.hid hp0
  clear hp0
  go_wp2_with fail
  go_loopw [6] (fun i wr => ∃ (k : Nat) (nn : Int) (Av : Option Addr) (cv : Nat) (ms : List Mw) (s : Rs) (Ar : Option Addr) (nr cr : Nat), i = .int .i64 nn ∧ 0 ≤ nn ∧ nn ≤ 4611686018427387903 ∧ k ≤ 4097 ∧ Hid (DeM w5 rb w4.heap.size g1 g2 g3 g4 T k nn wr Av cv ms s Ar nr cr)) (fun i _ => (intOf i).toNat)
  case atStart => exact ⟨0, g5, none, 0, [], s5, A5, n5, c5, rfl, hg1, hg2, by omega, HP0.out⟩
  case round =>
    obtain ⟨k, nn, Av, cv, ms, s, Ar, nr, cr, rfl, hn0, hn1, hk, HP⟩ := hrel
    have hbd : s.bad = true ∨ s.bad = false := by cases s.bad <;> simp
    have hlv : ∀ b, blkOf Av = some b → w5.heap.size ≤ b ∧ b < wr.heap.size := fun b hb => by
      have := HP.out.own.lt b (by rw [own_blk]; exact hb)
      exact this
    have HLV := Lib.hid hlv
    have hw5r := HP.out.mod.size
    have v0 : wr.cell? ⟨w4.heap.size, 0, none⟩ = some (.int .i64 g1) := HP.out.vbk.cell 0
    have v1 : wr.cell? ⟨w4.heap.size, 1, none⟩ = some (.int .i64 g2) := HP.out.vbk.cell 1
    have v2 : wr.cell? ⟨w4.heap.size, 2, none⟩ = some (.int .i64 g3) := HP.out.vbk.cell 2
    have v3 : wr.cell? ⟨w4.heap.size, 3, none⟩ = some (.int .i64 g4) := HP.out.vbk.cell 3
    have v4 : wr.cell? ⟨w4.heap.size, 4, none⟩ = some (.slice Av k cv) := HP.out.vbk.cell 4
    by_cases hcond : 0 < nn ∧ k ≤ 4096 ∧ s.bad = false
    · obtain ⟨hc1, hc2, hc3⟩ := hcond
      have r1 : wr.cell? ⟨rb, 1, none⟩ = some (.bool false) := by rw [← hc3]; exact HP.out.rs.blk.cell 1
      have i1 : (k : Int) ≤ 4096 := by omega
      obtain ⟨a1, t1, e1⟩ : ∃ g t, numP s = (g, t) := ⟨_, _, rfl⟩
      obtain ⟨a2, t2, e2⟩ : ∃ g t, numP t1 = (g, t) := ⟨_, _, rfl⟩
      obtain ⟨a3, t3, e3⟩ : ∃ g t, numP t2 = (g, t) := ⟨_, _, rfl⟩
      obtain ⟨a4, t4, e4⟩ : ∃ g t, textP t3 = (g, t) := ⟨_, _, rfl⟩
      obtain ⟨a5, t5, e5⟩ : ∃ g t, textP t4 = (g, t) := ⟨_, _, rfl⟩
      have hmeta : metaP s = (⟨a1, a2, a3, a4, a5⟩, t5) := by
        unfold metaP
        simp only
        rw [e1]
        simp only
        rw [e2]
        simp only
        rw [e3]
        simp only
        rw [e4]
        simp only
        rw [e5]
      have htb : tabsP (4097 - (k + 1)) (nn - 1) t5 (ms.map (·.m) ++ [⟨a1, a2, a3, a4, a5⟩]) = T := by
        have := HP.out.tabs
        rw [show 4097 - k = (4097 - (k + 1)) + 1 by omega, tabsP, if_pos ⟨hc1, by rw [List.length_map, HP.out.ln]; exact hc2, hc3⟩, hmeta] at this
        exact this
      have HTB := Lib.hid htb
      have E1 := Lib.hid e1
      have E2 := Lib.hid e2
      have E3 := Lib.hid e3
      have E4 := Lib.hid e4
      have E5 := Lib.hid e5
      have X0 := Lib.hid (HP.out.rs.mod (S := Non) (w' := wr.drew) ((Mod.refl Non wr).drew) (fun h => h) (fun _ => Off.non _))
      have Y0 : Hid (Mod (fun i => i = rb) wr wr.drew) := (Mod.refl _ wr).drew
      have hvf : ∀ W, Mod (fun i => i = rb ∨ blkOf Av = some i) wr W → Blk W w4.heap.size 34 #[.int .i64 g1, .int .i64 g2, .int .i64 g3, .int .i64 g4, .slice Av k cv] := fun W hW =>
        HP.out.vbk.mod hW fun h => by
          rcases h with h | h
          · omega
          · have := (HLV.out _ h).1
            omega
      have HVF := Lib.hid hvf
      have hke : ∀ W, Mod (fun i => i = rb ∨ blkOf Av = some i) wr W → W.cell? ⟨w4.heap.size, 4, none⟩ = some (.slice Av k cv) ∧ W.frozen? ⟨w4.heap.size, 4, none⟩ = false := fun W hW => ⟨(HVF.out W hW).cell 4, (HVF.out W hW).frozen 4⟩
      have HKE := Lib.hid hke
      have hko : ∀ W, Mod (fun i => i = rb) wr W → W.ownsRow w5.heap.size 95 5 (.slice Av k cv) k (ms.flatMap Mw.cells) := fun W hW =>
        own_mod HP.out.own hW fun b hb e => by
          rw [own_blk] at hb
          have := (HLV.out _ hb).1
          omega
      have HKO := Lib.hid hko
      have hks : ∀ W, Mod (fun i => i = rb) wr W → ∀ o, w5.heap.size ≤ (W.alloc o).heap.size := fun W hW o => by
        have := hW.size
        rw [World.size_alloc]
        omega
      have HKS := Lib.hid hks
      have hkq : ∀ W W' o, Mod (fun i => i = rb) wr W → (W.alloc o).grownBy W' (Value.slice Av k cv).ownBlock → Mod (fun i => i = rb ∨ blkOf Av = some i) wr W' := fun W W' o hW hg => by
        refine ((hW.mono (T := fun i => i = rb ∨ blkOf Av = some i) fun i h => .inl h).alloc o).trans (Mod.of_grown (S := fun i => blkOf Av = some i) hg fun i h => by rw [own_blk] at h; exact h) fun i h => .inl (.inr h)
      have HKQ := Lib.hid hkq
      obtain ⟨hk4, hk5⟩ := HKE.out _ (Y0.out.mono fun i h => .inl h)
      clear hmeta htb e1 e2 e3 e4 e5 hvf hke hko hks hkq hlv v0 v1 v2 v3 hc3
      go_wp2_with fail
      go_region_law
        (first
          | (refine step_appM _ rfl (.tmp 41) (.tmp 53) rfl w5.heap.size (.slice Av k cv) k ms rfl ((HKO.out u5 Y5.out).alloc _) _ 1 ⟨⟨a1, a2, a3, a4, a5⟩, T4, q4, T5, q5⟩ rfl (one_meta _ _ ⟨⟨a1, a2, a3, a4, a5⟩, T4, q4, T5, q5⟩) (by omega) (HKS.out u5 Y5.out _) ?_
             intro qA qc qw qhc qhcm qown qg qat
             have QM := Lib.hid (HKQ.out u5 qw _ Y5.out qg)
             obtain ⟨hk4, hk5⟩ := HKE.out qw QM.out
             have QOWN := Lib.hid qown
             have QG := Lib.hid qg
             have QAT := Lib.hid qat
             clear qown qg qat)
          | (go_simp
             first
             | (go_at_call 85
                first
                | ((with_reducible refine (HNUM.out _ _ _ E3.out rb _ _ _ _ X2.out).mono ?_)
                   rintro e u3 ⟨rfl, B3, m3, d3, x3, y3, -⟩
                   have X3 := Lib.hid x3
                   have Y3 := Lib.hid (Y2.out.trans y3 fun _ h => .inl h)
                   obtain ⟨hk4, hk5⟩ := HKE.out u3 (Y3.out.mono fun i h => .inl h)
                   clear x3 y3)
                | ((with_reducible refine (HNUM.out _ _ _ E2.out rb _ _ _ _ X1.out).mono ?_)
                   rintro e u2 ⟨rfl, B2, m2, d2, x2, y2, -⟩
                   have X2 := Lib.hid x2
                   have Y2 := Lib.hid (Y1.out.trans y2 fun _ h => .inl h)
                   obtain ⟨hk4, hk5⟩ := HKE.out u2 (Y2.out.mono fun i h => .inl h)
                   clear x2 y2)
                | ((with_reducible refine (HNUM.out _ _ _ E1.out rb _ _ _ _ X0.out).mono ?_)
                   rintro e u1 ⟨rfl, B1, m1, d1, x1, y1, -⟩
                   have X1 := Lib.hid x1
                   have Y1 := Lib.hid (Y0.out.trans y1 fun _ h => .inl h)
                   obtain ⟨hk4, hk5⟩ := HKE.out u1 (Y1.out.mono fun i h => .inl h)
                   clear x1 y1)
                | fail)
             | (go_at_call 86
                first
                | ((with_reducible refine (HTXT.out _ _ _ E5.out rb _ _ _ _ X4.out).mono ?_)
                   rintro e u5 ⟨T5, q5, rfl, z5a, z5b, z5c, z5d, B5, m5, d5, x5, y5, y5f⟩
                   have X5 := Lib.hid x5
                   have Y45 := Lib.hid y5
                   have Y5 := Lib.hid (Y4.out.trans y5 fun _ h => .inl h)
                   have Z5 := Lib.hid (And.intro z5a (And.intro z5b (And.intro z5c z5d)))
                   have YF := Lib.hid y5f
                   obtain ⟨hk4, hk5⟩ := HKE.out u5 (Y5.out.mono fun i h => .inl h)
                   have hk6 : (u5.alloc (.cells #[.int .i64 a1, .int .i64 a2, .int .i64 a3, .slice T4 a4.length q4, .slice T5 a5.length q5] 95)).cell? ⟨w4.heap.size, 4, none⟩ = some (.slice Av k cv) := (HKE.out _ ((Y5.out.mono fun i h => .inl h).alloc _)).1
                   clear x5 y5 z5a z5b z5c z5d y5f)
                | ((with_reducible refine (HTXT.out _ _ _ E4.out rb _ _ _ _ X3.out).mono ?_)
                   rintro e u4 ⟨T4, q4, rfl, z4a, z4b, z4c, z4d, B4, m4, d4, x4, y4, -⟩
                   have X4 := Lib.hid x4
                   have Y34 := Lib.hid y4.size
                   have Y4 := Lib.hid (Y3.out.trans y4 fun _ h => .inl h)
                   have Z4 := Lib.hid (And.intro z4a (And.intro z4b (And.intro z4c z4d)))
                   obtain ⟨hk4, hk5⟩ := HKE.out u4 (Y4.out.mono fun i h => .inl h)
                   clear x4 y4 z4a z4b z4c z4d)
                | fail)
             | fail)
          | fail)
      all_goals
        have hfin := Lib.hid (de_next HP.out hrv hsz5 Y3.out Y4.out Y34.out Y45.out (x := ⟨⟨a1, a2, a3, a4, a5⟩, T4, q4, T5, q5⟩) Z4.out Z5.out X5.out YF.out QG.out QAT.out QOWN.out HTB.out)
        have hkn : k + 1 ≤ 4097 := by omega
        have hn2 : nn - 1 ≤ 4611686018427387903 := by omega
        clear hk4 hk5 hk6
        go_wp2_with fail
        go_round
        case rel => exact ⟨k + 1, nn - 1, qA, qc, _, _, _, _, _, rfl, by omega, hn2, hkn, hfin.out⟩
        case measure => simp [intOf]; omega
    · have hT2 : T = (ms.map (·.m), s) := by
        have := HP.out.tabs
        rcases Nat.eq_zero_or_pos (4097 - k) with h0 | h0
        · rw [h0, tabsP] at this
          exact this.symm
        · obtain ⟨f, hf⟩ : ∃ f, 4097 - k = f + 1 := ⟨4097 - k - 1, by omega⟩
          rw [hf, tabsP, if_neg (by rw [List.length_map, HP.out.ln]; exact hcond)] at this
          exact this.symm
      obtain ⟨V, hV⟩ : ∃ V, (⟨g1, g2, g3, g4, ms.map (·.m)⟩ : Vs) = V := ⟨_, rfl⟩
      have hpv2 : parseV l = (V, s) := by rw [HPV.out, hT2, ← hV]
      have hHr : w.heap.size < rb := by rw [← HRB.out]; omega
      have hvm := fun w' (hm : Mod (fun i => i ≤ w.heap.size) wr w') => de_vw HP.out hsz5 (S := fun i => i ≤ w.heap.size) (fun i h => by omega) hm
      have hvw : VwOk wr ⟨g1, g2, g3, g4, Av, cv, ms⟩ := hvm wr (Mod.refl _ _)
      have hen : Calls Tryz.prog 77 #[.agg #[.int .i64 g1, .int .i64 g2, .int .i64 g3, .int .i64 g4, .slice Av k cv]] wr (EnPost V wr) := by
        have := encode_any ⟨g1, g2, g3, g4, Av, cv, ms⟩ wr hvw
        unfold Vw.val Vw.v at this
        simp only at this
        rw [HP.out.ln, hV] at this
        exact this
      have hz : Blk wr w.heap.size 34 #[.int .i64 0, .int .i64 0, .int .i64 0, .int .i64 0, .slice none 0 0] :=
        (((HRZ.out.mod HM4.out (by omega)).mod HM4A.out (fun h => h)).mod HM5.out (by omega)).mod HP.out.mod (by omega)
      have HMW := Lib.hid (HM5w.out.trans HP.out.mod fun i h => .inr (by omega))
      have hall : ∀ W, Mod Non wr W → (Blk W w.heap.size 34 #[.int .i64 0, .int .i64 0, .int .i64 0, .int .i64 0, .slice none 0 0] ∧ Blk W w4.heap.size 34 #[.int .i64 g1, .int .i64 g2, .int .i64 g3, .int .i64 g4, .slice Av k cv]) ∧ W.cell? ⟨rb, 1, none⟩ = some (.bool s.bad) := fun W hW =>
        ⟨⟨hz.mod hW fun h => h, HP.out.vbk.mod hW fun h => h⟩, (HP.out.rs.blk.mod hW fun h => h).cell 1⟩
      have HALL := Lib.hid hall
      have hno : (¬ (s.bad = false ∧ checkV V = true ∧ encV V = l)) → ∀ w', Mod Non w w' → DePost l w (.returned (.tuple #[.agg #[.int .i64 0, .int .i64 0, .int .i64 0, .int .i64 0, .slice none 0 0], .int .i64 2])) w' := fun hh w' hw => by
        unfold DePost decV
        rw [hpv2, if_neg hh]
        exact ⟨rfl, hw⟩
      have hyes : s.bad = false → checkV V = true → encV V = l → ∀ w', Mod (fun i => i = w.heap.size) wr w' → Mod Non w w' → DePost l w (.returned (.tuple #[.agg #[.int .i64 g1, .int .i64 g2, .int .i64 g3, .int .i64 g4, .slice Av k cv], .int .i64 0])) w' := fun h1 h2 h3 w' hw hw2 => by
        unfold DePost decV
        rw [hpv2, if_pos ⟨h1, h2, h3⟩]
        refine ⟨⟨g1, g2, g3, g4, Av, cv, ms⟩, hV, ?_, hvm w' (hw.mono fun i h => by omega), fun S w'' hS hm => hvm w'' ((hw.mono fun i h => by omega).trans hm fun i h => .inl (by have := hS i h; omega)), hw2⟩
        unfold Vw.val
        simp only
        rw [HP.out.ln]
      have HNO := Lib.hid hno
      have HYES := Lib.hid hyes
      have HEN := Lib.hid hen
      have r1 : wr.cell? ⟨rb, 1, none⟩ = some (.bool s.bad) := HP.out.rs.blk.cell 1
      obtain ⟨bd, hbq⟩ : ∃ bd, s.bad = bd := ⟨_, rfl⟩
      rw [hbq] at r1
      have HBQ := Lib.hid hbq
      have hc3 : ¬ 0 < nn ∨ (0 < nn ∧ ¬ (k : Int) ≤ 4096) ∨ (0 < nn ∧ (k : Int) ≤ 4096 ∧ bd = true) := by
        by_cases c1 : 0 < nn
        · by_cases c2 : k ≤ 4096
          · refine .inr (.inr ⟨c1, by omega, ?_⟩)
            cases hb : bd
            · exact absurd ⟨c1, c2, by rw [hbq, hb]⟩ hcond
            · rfl
          · exact .inr (.inl ⟨c1, by omega⟩)
        · exact .inl c1
      clear hcond hT2 hV hpv2 hvm hvw hen hz hall hno hyes hbq hbd hlv
      by_cases hck : checkV V = true
      · have hen1 : Calls Tryz.prog 77 #[.agg #[.int .i64 g1, .int .i64 g2, .int .i64 g3, .int .i64 g4, .slice Av k cv]] wr (fun e w' => ∃ A c, e = .returned (.tuple #[.slice A (encV V).length c, .int .i64 0]) ∧ Rd w' A (encV V).length (by8 (encV V)) ∧ (encV V).length ≤ c ∧ c ≤ 9223372036854775807 ∧ Mod Non wr w') :=
          HEN.out.mono fun e w' h => by unfold EnPost at h; rw [if_pos hck] at h; exact h
        have HCK := Lib.hid hck
        obtain ⟨ln, hln⟩ : ∃ ln, (encV V).length = ln := ⟨_, rfl⟩
        rw [hln] at hen1
        have HEN2 := Lib.hid hen1
        clear hen1 hck hln
        cases bd with
        | true =>
          have HN1 := Lib.hid (HNO.out (by rw [HBQ.out]; simp))
          rcases hc3 with q1 | ⟨q1, q2⟩ | ⟨q1, q2, -⟩
          all_goals
            go_wp2_with fail
            refine HEN2.out.mono ?_
            rintro e w6 ⟨EA, ec, rfl, her, hec1, hec2, hem⟩
            obtain ⟨⟨z0, z1⟩, y1⟩ := HALL.out w6 hem
            have HEM := Lib.hid (HMW.out.trans0 hem)
            have HW6 := Lib.hid hem
            have HZ := Lib.hid z0
            have HER := Lib.hid her
            have y00 : w6.cell? ⟨w.heap.size, 0, none⟩ = some (.int .i64 0) := z0.cell 0
            have y01 : w6.cell? ⟨w.heap.size, 1, none⟩ = some (.int .i64 0) := z0.cell 1
            have y02 : w6.cell? ⟨w.heap.size, 2, none⟩ = some (.int .i64 0) := z0.cell 2
            have y03 : w6.cell? ⟨w.heap.size, 3, none⟩ = some (.int .i64 0) := z0.cell 3
            have y04 : w6.cell? ⟨w.heap.size, 4, none⟩ = some (.slice none 0 0) := z0.cell 4
            have f0 := z0.frozen 0
            have f1 := z0.frozen 1
            have f2 := z0.frozen 2
            have f3 := z0.frozen 3
            have f4 := z0.frozen 4
            rw [HBQ.out] at y1
            clear v0 v1 v2 v3 v4 r1 z1 z0 her hec1 hec2 hem
            go_wp2_with fail
            refine bodyPost_ret (results_rowtmp rfl _ _ w.heap.size 34 _ _ rfl (HZ.out.five _ _ _ _ _) Tryz.underlying34 rfl (by kernel_rfl) (.int .i64 2) rfl) rfl ?_
            exact HN1.out _ (set5 HEM.out _ _ _ _ _)
        | false =>
          have hb0 := HBQ.out
          by_cases heq : encV V = l
          · have HY1 := Lib.hid (HYES.out hb0 HCK.out heq)
            have heq' : ∀ (EA : Option Addr) (ec : Nat) (W : World), Rd W EA ln (by8 (encV V)) → Rd W A n (by8 l) → Calls Tryz.prog 87 #[.slice EA ln ec, .slice A n c] W fun e w' => e = .returned (.bool true) ∧ w' = W := fun EA ec W h1 h2 =>
              (equal_any EA A ln ec n c (encV V) l W h1 h2).mono fun e w' h => by rw [decide_eq_true heq] at h; exact h
            have HEQ := Lib.hid heq'
            clear heq heq'
            rcases hc3 with q1 | ⟨q1, q2⟩ | ⟨_, _, q3⟩
            case inr.inr => cases q3
            all_goals
              go_wp2_with fail
              refine HEN2.out.mono ?_
              rintro e w6 ⟨EA, ec, rfl, her, hec1, hec2, hem⟩
              obtain ⟨⟨z0, z1⟩, y1⟩ := HALL.out w6 hem
              have HEM := Lib.hid (HMW.out.trans0 hem)
              have HW6 := Lib.hid hem
              have HZ := Lib.hid z0
              have HER := Lib.hid her
              have y00 : w6.cell? ⟨w.heap.size, 0, none⟩ = some (.int .i64 0) := z0.cell 0
              have y01 : w6.cell? ⟨w.heap.size, 1, none⟩ = some (.int .i64 0) := z0.cell 1
              have y02 : w6.cell? ⟨w.heap.size, 2, none⟩ = some (.int .i64 0) := z0.cell 2
              have y03 : w6.cell? ⟨w.heap.size, 3, none⟩ = some (.int .i64 0) := z0.cell 3
              have y04 : w6.cell? ⟨w.heap.size, 4, none⟩ = some (.slice none 0 0) := z0.cell 4
              have f0 := z0.frozen 0
              have f1 := z0.frozen 1
              have f2 := z0.frozen 2
              have f3 := z0.frozen 3
              have f4 := z0.frozen 4
              rw [HBQ.out] at y1
              have x00 : w6.cell? ⟨w4.heap.size, 0, none⟩ = some (.int .i64 g1) := z1.cell 0
              have x01 : w6.cell? ⟨w4.heap.size, 1, none⟩ = some (.int .i64 g2) := z1.cell 1
              have x02 : w6.cell? ⟨w4.heap.size, 2, none⟩ = some (.int .i64 g3) := z1.cell 2
              have x03 : w6.cell? ⟨w4.heap.size, 3, none⟩ = some (.int .i64 g4) := z1.cell 3
              have x04 : w6.cell? ⟨w4.heap.size, 4, none⟩ = some (.slice Av k cv) := z1.cell 4
              clear v0 v1 v2 v3 v4 r1 z1 z0 her hec1 hec2 hem
              go_wp2_with fail
              refine (HEQ.out EA ec w6 HER.out (H0.out.mod0 HEM.out)).mono ?_
              rintro e w7 ⟨rfl, rfl⟩
              go_wp2_with fail
              refine bodyPost_ret (results_rowtmp rfl _ _ w.heap.size 34 _ _ rfl (HZ.out.five _ _ _ _ _) Tryz.underlying34 rfl (by kernel_rfl) (.int .i64 0) rfl) rfl ?_
              exact HY1.out _ (((((((Mod.refl (fun i => i = w.heap.size) wr).trans0 HW6.out).set1 0 _).set1 1 _).set1 2 _).set1 3 _).set1 4 _) (set5 HEM.out _ _ _ _ _)
          · have HN1 := Lib.hid (HNO.out (fun h => heq h.2.2))
            have heq' : ∀ (EA : Option Addr) (ec : Nat) (W : World), Rd W EA ln (by8 (encV V)) → Rd W A n (by8 l) → Calls Tryz.prog 87 #[.slice EA ln ec, .slice A n c] W fun e w' => e = .returned (.bool false) ∧ w' = W := fun EA ec W h1 h2 =>
              (equal_any EA A ln ec n c (encV V) l W h1 h2).mono fun e w' h => by rw [decide_eq_false heq] at h; exact h
            have HEQ := Lib.hid heq'
            clear heq heq'
            rcases hc3 with q1 | ⟨q1, q2⟩ | ⟨_, _, q3⟩
            case inr.inr => cases q3
            all_goals
              go_wp2_with fail
              refine HEN2.out.mono ?_
              rintro e w6 ⟨EA, ec, rfl, her, hec1, hec2, hem⟩
              obtain ⟨⟨z0, z1⟩, y1⟩ := HALL.out w6 hem
              have HEM := Lib.hid (HMW.out.trans0 hem)
              have HW6 := Lib.hid hem
              have HZ := Lib.hid z0
              have HER := Lib.hid her
              have y00 : w6.cell? ⟨w.heap.size, 0, none⟩ = some (.int .i64 0) := z0.cell 0
              have y01 : w6.cell? ⟨w.heap.size, 1, none⟩ = some (.int .i64 0) := z0.cell 1
              have y02 : w6.cell? ⟨w.heap.size, 2, none⟩ = some (.int .i64 0) := z0.cell 2
              have y03 : w6.cell? ⟨w.heap.size, 3, none⟩ = some (.int .i64 0) := z0.cell 3
              have y04 : w6.cell? ⟨w.heap.size, 4, none⟩ = some (.slice none 0 0) := z0.cell 4
              have f0 := z0.frozen 0
              have f1 := z0.frozen 1
              have f2 := z0.frozen 2
              have f3 := z0.frozen 3
              have f4 := z0.frozen 4
              rw [HBQ.out] at y1
              clear v0 v1 v2 v3 v4 r1 z1 z0 her hec1 hec2 hem
              go_wp2_with fail
              refine (HEQ.out EA ec w6 HER.out (H0.out.mod0 HEM.out)).mono ?_
              rintro e w7 ⟨rfl, rfl⟩
              go_wp2_with fail
              refine bodyPost_ret (results_rowtmp rfl _ _ w.heap.size 34 _ _ rfl (HZ.out.five _ _ _ _ _) Tryz.underlying34 rfl (by kernel_rfl) (.int .i64 2) rfl) rfl ?_
              exact HN1.out _ (set5 HEM.out _ _ _ _ _)
      · have HN1 := Lib.hid (HNO.out (fun h => hck h.2.1))
        have hen2 : Calls Tryz.prog 77 #[.agg #[.int .i64 g1, .int .i64 g2, .int .i64 g3, .int .i64 g4, .slice Av k cv]] wr (fun e w' => e = .returned (.tuple #[.slice none 0 0, .int .i64 1]) ∧ Mod Non wr w') :=
          HEN.out.mono fun e w' h => by unfold EnPost at h; rw [if_neg hck] at h; exact h
        have HEN2 := Lib.hid hen2
        clear hen2 hck
        cases bd with
        | true =>
          rcases hc3 with q1 | ⟨q1, q2⟩ | ⟨q1, q2, -⟩
          all_goals
            go_wp2_with fail
            refine HEN2.out.mono ?_
            rintro e w6 ⟨rfl, hem⟩
            obtain ⟨⟨z0, z1⟩, y1⟩ := HALL.out w6 hem
            have HEM := Lib.hid (HMW.out.trans0 hem)
            have HZ := Lib.hid z0
            have y00 : w6.cell? ⟨w.heap.size, 0, none⟩ = some (.int .i64 0) := z0.cell 0
            have y01 : w6.cell? ⟨w.heap.size, 1, none⟩ = some (.int .i64 0) := z0.cell 1
            have y02 : w6.cell? ⟨w.heap.size, 2, none⟩ = some (.int .i64 0) := z0.cell 2
            have y03 : w6.cell? ⟨w.heap.size, 3, none⟩ = some (.int .i64 0) := z0.cell 3
            have y04 : w6.cell? ⟨w.heap.size, 4, none⟩ = some (.slice none 0 0) := z0.cell 4
            have f0 := z0.frozen 0
            have f1 := z0.frozen 1
            have f2 := z0.frozen 2
            have f3 := z0.frozen 3
            have f4 := z0.frozen 4
            rw [HBQ.out] at y1
            clear v0 v1 v2 v3 v4 r1 z1 z0 hem
            go_wp2_with fail
            refine bodyPost_ret (results_rowtmp rfl _ _ w.heap.size 34 _ _ rfl (HZ.out.five _ _ _ _ _) Tryz.underlying34 rfl (by kernel_rfl) (.int .i64 2) rfl) rfl ?_
            exact HN1.out _ (set5 HEM.out _ _ _ _ _)
        | false =>
          rcases hc3 with q1 | ⟨q1, q2⟩ | ⟨_, _, q3⟩
          case inr.inr => cases q3
          all_goals
            go_wp2_with fail
            refine HEN2.out.mono ?_
            rintro e w6 ⟨rfl, hem⟩
            obtain ⟨⟨z0, z1⟩, y1⟩ := HALL.out w6 hem
            have HEM := Lib.hid (HMW.out.trans0 hem)
            have HZ := Lib.hid z0
            have y00 : w6.cell? ⟨w.heap.size, 0, none⟩ = some (.int .i64 0) := z0.cell 0
            have y01 : w6.cell? ⟨w.heap.size, 1, none⟩ = some (.int .i64 0) := z0.cell 1
            have y02 : w6.cell? ⟨w.heap.size, 2, none⟩ = some (.int .i64 0) := z0.cell 2
            have y03 : w6.cell? ⟨w.heap.size, 3, none⟩ = some (.int .i64 0) := z0.cell 3
            have y04 : w6.cell? ⟨w.heap.size, 4, none⟩ = some (.slice none 0 0) := z0.cell 4
            have f0 := z0.frozen 0
            have f1 := z0.frozen 1
            have f2 := z0.frozen 2
            have f3 := z0.frozen 3
            have f4 := z0.frozen 4
            rw [HBQ.out] at y1
            clear v0 v1 v2 v3 v4 r1 z1 z0 hem
            go_wp2_with fail
            refine bodyPost_ret (results_rowtmp rfl _ _ w.heap.size 34 _ _ rfl (HZ.out.five _ _ _ _ _) Tryz.underlying34 rfl (by kernel_rfl) (.int .i64 2) rfl) rfl ?_
            exact HN1.out _ (set5 HEM.out _ _ _ _ _)

end Go.Proofs.YtdpjnpjmokncdaaGreatDoor

/- sawyerref10.Same. -/
namespace Go.Proofs.YtdpjnpjmokncdaaGreatDoor
open Go.RowKit

set_option maxRecDepth 100000 in
set_option maxHeartbeats 4000000 in
theorem sameVs_any (x y : Vw) (w : World) (hx : VwOk w x) (hy : VwOk w y) :
    Calls Tryz.prog 14 #[x.val, y.val] w fun e w' => e = .returned (.bool (decide (x.v = y.v))) ∧ Mod Non w w' := by
  obtain ⟨xx, hxx⟩ : ∃ xx, x.v = xx := ⟨_, rfl⟩
  obtain ⟨yy, hyy⟩ : ∃ yy, y.v = yy := ⟨_, rfl⟩
  obtain ⟨R, hR⟩ : ∃ R, decide (xx = yy) = R := ⟨_, rfl⟩
  rw [hxx, hyy, hR]
  have HR := Lib.hid hR
  obtain ⟨gen, next, log, seq, A, c, xs⟩ := x
  obtain ⟨gen', next', log', seq', B, d, ys⟩ := y
  obtain ⟨n, hn⟩ : ∃ n, xs.length = n := ⟨_, rfl⟩
  obtain ⟨m, hm⟩ : ∃ m, ys.length = m := ⟨_, rfl⟩
  have hcall : ∀ W, Mod Non w W → Calls Tryz.prog 47 #[.slice A n c, .slice B m d] W fun e w' => e = .returned (.bool (decide (xs.map (·.m) = ys.map (·.m)))) ∧ Mod Non W w' := fun W hW => by
    have h1 := hx.row.mod0 hW
    have h2 := hy.row.mod0 hW
    simp only at h1 h2
    rw [hn] at h1
    rw [hm] at h2
    have h3 := hx.nc
    have h4 := hx.cm
    simp only at h3 h4
    exact sameMetas_any A B n c m d xs ys W h1 hn (fun x hq => (hx.ok x hq).mod0 hW) h2 hm (fun x hq => (hy.ok x hq).mod0 hW) (by omega)
  have HC := Lib.hid hcall
  have hv : xx = ⟨gen, next, log, seq, xs.map (·.m)⟩ := hxx.symm
  have hv' : yy = ⟨gen', next', log', seq', ys.map (·.m)⟩ := hyy.symm
  have HV := Lib.hid hv
  have HV' := Lib.hid hv'
  have hno : xx ≠ yy → R = false := fun h => by rw [← HR.out]; exact decide_eq_false h
  have HNO := Lib.hid hno
  unfold Vw.val
  simp only
  rw [hn, hm]
  have hbx : Blk ((w.alloc (.cells #[.int .i64 gen, .int .i64 next, .int .i64 log, .int .i64 seq, .slice A n c] 30)).alloc (.cells #[.int .i64 gen', .int .i64 next', .int .i64 log', .int .i64 seq', .slice B m d] 30)) w.heap.size 30 #[.int .i64 gen, .int .i64 next, .int .i64 log, .int .i64 seq, .slice A n c] := (Blk.new w _ _).alloc _
  have hby : Blk ((w.alloc (.cells #[.int .i64 gen, .int .i64 next, .int .i64 log, .int .i64 seq, .slice A n c] 30)).alloc (.cells #[.int .i64 gen', .int .i64 next', .int .i64 log', .int .i64 seq', .slice B m d] 30)) (w.heap.size + 1) 30 #[.int .i64 gen', .int .i64 next', .int .i64 log', .int .i64 seq', .slice B m d] := by
    have := Blk.new (w.alloc (.cells #[.int .i64 gen, .int .i64 next, .int .i64 log, .int .i64 seq, .slice A n c] 30)) 30 #[.int .i64 gen', .int .i64 next', .int .i64 log', .int .i64 seq', .slice B m d]
    rwa [World.size_alloc] at this
  have HM := Lib.hid (((Mod.refl Non w).alloc (.cells #[.int .i64 gen, .int .i64 next, .int .i64 log, .int .i64 seq, .slice A n c] 30)).alloc (.cells #[.int .i64 gen', .int .i64 next', .int .i64 log', .int .i64 seq', .slice B m d] 30))
  have x0 := hbx.cell 0
  have x1 := hbx.cell 1
  have x2 := hbx.cell 2
  have x3 := hbx.cell 3
  have x4 := hbx.cell 4
  have y0 := hby.cell 0
  have y1 := hby.cell 1
  have y2 := hby.cell 2
  have y3 := hby.cell 3
  have y4 := hby.cell 4
  simp only [List.getElem?_toArray, List.getElem?_cons_zero, List.getElem?_cons_succ] at x0 x1 x2 x3 x4 y0 y1 y2 y3 y4
  clear hcall hv hv' hno hR hxx hyy hx hy hn hm hbx hby
  by_cases q0 : gen = gen'
  · subst q0
    by_cases q1 : next = next'
    · subst q1
      by_cases q2 : log = log'
      · subst q2
        by_cases q3 : seq = seq'
        · subst q3
          have HQ : Hid (decide (xs.map (·.m) = ys.map (·.m)) = R) := by
            show _ = _
            rw [← HR.out, HV.out, HV'.out]
            simp
          go_enter Tryz.func14, Tryz.ntmps14
          go_wp2_with (first
            | (go_at_call 47; refine (HC.out _ HM.out).mono ?_; rw [HQ.out]; rintro e w1 ⟨rfl, hm1⟩; have HM1 := Lib.hid (HM.out.trans0 hm1); clear hm1)
            | fail)
          go_ret
          exact ⟨rfl, HM1.out⟩
        · have HRF := Lib.hid (HNO.out (fun e => q3 (by rw [HV.out, HV'.out] at e; injection e)))
          have hs2 : (seq == seq') = false := beq_eq_false_iff_ne.2 q3
          have hs3 : decide (seq = seq') = false := decide_eq_false q3
          go_enter Tryz.func14, Tryz.ntmps14
          go_wp2_with fail
          go_ret
          exact ⟨by rw [HRF.out]; rfl, HM.out⟩
      · have HRF := Lib.hid (HNO.out (fun e => q2 (by rw [HV.out, HV'.out] at e; injection e)))
        have hs2 : (log == log') = false := beq_eq_false_iff_ne.2 q2
        have hs3 : decide (log = log') = false := decide_eq_false q2
        go_enter Tryz.func14, Tryz.ntmps14
        go_wp2_with fail
        go_ret
        exact ⟨by rw [HRF.out]; rfl, HM.out⟩
    · have HRF := Lib.hid (HNO.out (fun e => q1 (by rw [HV.out, HV'.out] at e; injection e)))
      have hs2 : (next == next') = false := beq_eq_false_iff_ne.2 q1
      have hs3 : decide (next = next') = false := decide_eq_false q1
      go_enter Tryz.func14, Tryz.ntmps14
      go_wp2_with fail
      go_ret
      exact ⟨by rw [HRF.out]; rfl, HM.out⟩
  · have HRF := Lib.hid (HNO.out (fun e => q0 (by rw [HV.out, HV'.out] at e; injection e)))
    have hs2 : (gen == gen') = false := beq_eq_false_iff_ne.2 q0
    have hs3 : decide (gen = gen') = false := decide_eq_false q0
    go_enter Tryz.func14, Tryz.ntmps14
    go_wp2_with fail
    go_ret
    exact ⟨by rw [HRF.out]; rfl, HM.out⟩

end Go.Proofs.YtdpjnpjmokncdaaGreatDoor
