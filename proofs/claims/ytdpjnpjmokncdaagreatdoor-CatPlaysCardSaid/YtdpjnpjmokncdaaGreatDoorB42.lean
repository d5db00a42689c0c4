/- cat.Need. -/
import Derived.Test.YtdpjnpjmokncdaaGreatDoorB38
import Derived.Test.YtdpjnpjmokncdaaGreatDoorB41
import Derived.Test.YtdpjnpjmokncdaaGreatDoorB37
import Derived.Deep.RegionHeld3
import Derived.Test.YtdpjnpjmokncdaaGreatDoorB10
import Derived.Test.YtdpjnpjmokncdaaGreatDoorB12
import Derived.Test.YtdpjnpjmokncdaaGreatDoorB13
namespace Go.Proofs.YtdpjnpjmokncdaaGreatDoor
open Go.RowKit

def needC (v : Vs) : Int := if checkV v = true then 36 + (foldN manP v.gen).size + (frameB (encE v)).length + (frameB (nB v.gen)).length else 0

set_option maxRecDepth 100000 in
set_option maxHeartbeats 4000000 in
theorem needC_any (p : Option Addr) (x : Vw) (w : World) (h : VwOk w x) (hL : Lay w) :
    Calls Tryz.prog 35 #[.pointer p, x.val] w fun e w' => e = .returned (.int .i64 (needC x.v)) ∧ Mod Non w w' := by
  obtain ⟨gen, next, log, seq, A, c, ms⟩ := x
  obtain ⟨n, hn⟩ : ∃ n, ms.length = n := ⟨_, rfl⟩
  obtain ⟨V, hV⟩ : ∃ V, Vw.v ⟨gen, next, log, seq, A, c, ms⟩ = V := ⟨_, rfl⟩
  have hgen : V.gen = gen := by rw [← hV]; rfl
  have hck : ∀ W, Mod Non w W → Calls Tryz.prog 22 #[.agg #[.int .i64 gen, .int .i64 next, .int .i64 log, .int .i64 seq, .slice A n c]] W fun e w' => e = .returned (.int .i64 (if checkV V = true then 0 else 1)) ∧ Mod Non W w' := fun W hW => by
    have := check_any ⟨gen, next, log, seq, A, c, ms⟩ W (h.mod0 hW)
    unfold Vw.val at this
    simp only at this
    rw [hn, hV] at this
    exact this
  have hfs : ∀ W, Mod Non w W → Calls Tryz.prog 37 #[.agg #[.int .i64 gen, .int .i64 next, .int .i64 log, .int .i64 seq, .slice A n c]] W (FsPost V W) := fun W hW => by
    have := files_any ⟨gen, next, log, seq, A, c, ms⟩ W (h.mod0 hW)
    unfold Vw.val at this
    simp only at this
    rw [hn, hV] at this
    exact this
  have HCK := Lib.hid hck
  have HFS := Lib.hid hfs
  have HG := Lib.hid hgen
  have HL := Lib.hid hL
  rw [hV]
  unfold Vw.val
  simp only
  rw [hn]
  have HBX := Lib.hid (Blk.new w 34 #[.int .i64 gen, .int .i64 next, .int .i64 log, .int .i64 seq, .slice A n c])
  have HMA := Lib.hid ((Mod.refl Non w).alloc (.cells #[.int .i64 gen, .int .i64 next, .int .i64 log, .int .i64 seq, .slice A n c] 34))
  have hbx : ∀ W, Mod Non (w.alloc (.cells #[.int .i64 gen, .int .i64 next, .int .i64 log, .int .i64 seq, .slice A n c] 34)) W → Blk W w.heap.size 34 #[.int .i64 gen, .int .i64 next, .int .i64 log, .int .i64 seq, .slice A n c] := fun W hW => HBX.out.mod hW fun h => h
  have HBW := Lib.hid hbx
  clear hck hfs hgen hV hn h hL hbx
  by_cases hcv : checkV V = true
  · rw [if_pos hcv] at HCK
    obtain ⟨r, hr⟩ : ∃ r, needC V = r := ⟨_, rfl⟩
    have hr' : (36 : Int) + (foldN manP gen).size + (frameB (encE V)).length + (frameB (nB gen)).length = r := by
      rw [← hr]
      unfold needC
      rw [if_pos hcv, HG.out]
    rw [hr]
    have hl1 : (encE V).length ≤ 1048576 := by
      unfold encE
      rw [if_pos hcv]
      have h1 := (encV_len hcv).1
      have h2 := (encV_len hcv).2
      omega
    have hl2 : (nB gen).length ≤ 9 := nB_len gen
    have hl3 : (foldN manP gen).size ≤ 17 := by
      by_cases hr : 0 ≤ gen ∧ gen ≤ 1099511627776
      · rw [foldN_size hr]; decide
      · rw [foldN_0 hr]; omega
    have hf1 := frameB_len hl1
    have hf2 := frameB_len (b := nB gen) (by omega)
    have HF := Lib.hid (And.intro hl1 (And.intro hl2 (And.intro hl3 (And.intro hf1 hf2))))
    have HR := Lib.hid hr'
    obtain ⟨nm, hnm⟩ : ∃ nm, foldN manP gen = nm := ⟨_, rfl⟩
    have HNM := Lib.hid hnm
    clear hl1 hl2 hl3 hf1 hf2 hr hr' hcv hnm
    go_enter Tryz.func35, Tryz.ntmps35
    have hb := HBW.out _ (Mod.refl _ _)
    have x0 := hb.cell 0
    have x1 := hb.cell 1
    have x2 := hb.cell 2
    have x3 := hb.cell 3
    have x4 := hb.cell 4
    go_wp2_with fail
    refine (HCK.out _ HMA.out).mono ?_
    rintro e w1 ⟨rfl, hm1⟩
    have HM1 := Lib.hid hm1
    have hb := HBW.out _ HM1.out
    have y0 : w1.cell? ⟨w.heap.size, 0, none⟩ = some (.int .i64 gen) := hb.cell 0
    have y1 : w1.cell? ⟨w.heap.size, 1, none⟩ = some (.int .i64 next) := hb.cell 1
    have y2 : w1.cell? ⟨w.heap.size, 2, none⟩ = some (.int .i64 log) := hb.cell 2
    have y3 : w1.cell? ⟨w.heap.size, 3, none⟩ = some (.int .i64 seq) := hb.cell 3
    have y4 : w1.cell? ⟨w.heap.size, 4, none⟩ = some (.slice A n c) := hb.cell 4
    clear hm1 hb x0 x1 x2 x3 x4
    go_wp2_with fail
    refine (HFS.out w1 (HMA.out.trans0 HM1.out)).mono ?_
    rintro e w2 ⟨FA, fn, fc, FB, fm, fd, rfl, hr1, hr2, _, _, _, _, _, _, hm2⟩
    have HM2 := Lib.hid (HM1.out.trans0 hm2)
    have hfn : (frameB (encE V)).length = fn := by simpa using hr1.1
    have hfm : (frameB (nB gen)).length = fm := by have := hr2.1; rw [HG.out] at this; simpa using this
    have hb := HBW.out _ HM2.out
    have z0 : w2.cell? ⟨w.heap.size, 0, none⟩ = some (.int .i64 gen) := hb.cell 0
    have hfin : (32 : Int) + nm.size + 4 + fn + fm = r := by
      have := HR.out
      rw [HNM.out, hfn, hfm] at this
      omega
    have hbd : nm.size ≤ 1000 ∧ fn ≤ 100000000 ∧ fm ≤ 100000000 := by
      obtain ⟨h1, h2, h3, h4, h5⟩ := HF.out
      rw [HNM.out] at h3
      omega
    obtain ⟨b1, b2, b3⟩ := hbd
    have HFIN := Lib.hid hfin
    have hnd : ∀ W, Mod Non w W → Calls Tryz.prog 36 #[.string ⟨#[109, 97, 110, 47]⟩, .int .i64 gen] W fun e w' => e = .returned (.string nm) ∧ Mod Non W w' := fun W hW => by
      have := fold_any manP gen W (HL.out.mod0 hW) (by decide)
      rw [HNM.out] at this
      exact this
    have HND := Lib.hid hnd
    clear hm2 hr1 hr2 hfn hfm hb hfin hnd y0 y1 y2 y3 y4
    go_wp2_with fail
    refine (HND.out w2 (HMA.out.trans0 HM2.out)).mono ?_
    rintro e w3 ⟨rfl, hm3⟩
    have HM3 := Lib.hid (HM2.out.trans0 hm3)
    clear hm3
    go_wp2_with fail
    go_ret
    refine ⟨?_, HMA.out.trans0 HM3.out⟩
    rw [← HFIN.out]
    rfl
  · rw [if_neg hcv] at HCK
    have hr : needC V = 0 := by unfold needC; rw [if_neg hcv]
    rw [hr]
    clear hr hcv
    go_enter Tryz.func35, Tryz.ntmps35
    have hb := HBW.out _ (Mod.refl _ _)
    have x0 := hb.cell 0
    have x1 := hb.cell 1
    have x2 := hb.cell 2
    have x3 := hb.cell 3
    have x4 := hb.cell 4
    go_wp2_with fail
    refine (HCK.out _ HMA.out).mono ?_
    rintro e w1 ⟨rfl, hm1⟩
    have HM1 := Lib.hid hm1
    clear hm1
    go_wp2_with fail
    go_ret
    exact ⟨rfl, HMA.out.trans0 HM1.out⟩

end Go.Proofs.YtdpjnpjmokncdaaGreatDoor

/- sawyerref11: files, Need. -/
namespace Go.Proofs.YtdpjnpjmokncdaaGreatDoor
open Go.RowKit

theorem putFrameR_new (B : Option Addr) (m d : Nat) (k : List UInt8) (w : World) (g : Rd w B m (by8 k)) (hn : m ≤ 140737488351232) :
    Calls Tryz.prog 150 #[.slice none 0 0, .slice B m d] w fun e w' => ∃ A' n' c', e = .returned (.slice A' n' c') ∧ n' = (frameB k).length ∧
      w'.ownsRow w.heap.size 5 1 (.slice A' n' c') n' (by8 (frameB k)) ∧ Below w.heap.size w w' :=
  (putFrameR_nil B m d k (frameB k) rfl w g hn).mono fun _ _ ⟨A', c', h1, h2, h3⟩ => ⟨A', _, c', h1, rfl, h2, h3⟩

set_option maxRecDepth 100000 in
set_option maxHeartbeats 4000000 in
theorem filesR_any (x : Vw) (w : World) (h : VwOk w x) :
    Calls Tryz.prog 113 #[x.val] w (FsPost x.v w) := by
  obtain ⟨gen, next, log, seq, A, c, ms⟩ := x
  obtain ⟨n, hn⟩ : ∃ n, ms.length = n := ⟨_, rfl⟩
  obtain ⟨V, hV⟩ : ∃ V, Vw.v ⟨gen, next, log, seq, A, c, ms⟩ = V := ⟨_, rfl⟩
  have hgen : V.gen = gen := by rw [← hV]; rfl
  obtain ⟨eb, heb⟩ : ∃ eb, encE V = eb := ⟨_, rfl⟩
  have hel : eb.length ≤ 4194304 := by
    rw [← heb]
    unfold encE
    split
    · rename_i hc
      have h1 := (encV_len hc).1
      have h2 := (encV_len hc).2
      omega
    · simp
  have hen : ∀ W, Mod Non w W → Calls Tryz.prog 143 #[.agg #[.int .i64 gen, .int .i64 next, .int .i64 log, .int .i64 seq, .slice A n c]] W fun e w' => ∃ A n c q, e = .returned (.tuple #[.slice A n c, .int .i64 q]) ∧ Rd w' A n (by8 eb) ∧ Mod Non W w' := fun W hW => by
    have := encodeR_any ⟨gen, next, log, seq, A, c, ms⟩ W (h.mod0 hW)
    unfold Vw.val at this
    simp only at this
    rw [hn, hV] at this
    refine this.mono fun e w' hp => ?_
    unfold EnPost at hp
    unfold encE at heb
    by_cases hc : checkV V = true
    · rw [if_pos hc] at hp heb
      obtain ⟨A', c', he, hr, _, _, hm⟩ := hp
      rw [heb] at he hr
      exact ⟨A', _, c', 0, he, hr, hm⟩
    · rw [if_neg hc] at hp heb
      subst heb
      exact ⟨none, 0, 0, 1, hp.1, Rd.nil _ _, hp.2⟩
  have HEN := Lib.hid hen
  have HEB := Lib.hid heb
  have HG := Lib.hid hgen
  rw [hV]
  unfold Vw.val
  simp only
  rw [hn]
  have HBX := Lib.hid (Blk.new w 30 #[.int .i64 gen, .int .i64 next, .int .i64 log, .int .i64 seq, .slice A n c])
  have HMA := Lib.hid ((Mod.refl Non w).alloc (.cells #[.int .i64 gen, .int .i64 next, .int .i64 log, .int .i64 seq, .slice A n c] 30))
  clear hen heb hgen hV hn h
  go_enter Tryz.func113, Tryz.ntmps113
  go_wp2_with fail
  refine (HEN.out _ HMA.out).mono ?_
  rintro e w1 ⟨A1, n1, c1, q1, rfl, hr1, hm1⟩
  have hn1 : n1 ≤ 4194304 := by
    have : eb.length = n1 := by simpa using hr1.1
    omega
  have HR1 := Lib.hid hr1
  have HM1 := Lib.hid (HMA.out.trans0 hm1)
  have HBX1 := Lib.hid (HBX.out.mod hm1 fun h => h)
  have hke : ∀ W, Mod Non w1 W → W.cell? ⟨w.heap.size, 0, none⟩ = some (.int .i64 gen) := fun W hW => (HBX1.out.mod hW fun h => h).cell 0
  have HKE := Lib.hid hke
  have M0 : Hid (Mod Non w1 w1.drew) := (Mod.refl Non w1).drew
  have hk0 := HKE.out _ M0.out
  have hpn : ∀ W, Calls Tryz.prog 140 #[.slice none 0 0, .int .i64 gen] W fun e w' => ∃ A' k c', e = .returned (.slice A' k c') ∧ k ≤ 9 ∧ w'.ownsRow W.heap.size 5 1 (.slice A' k c') k (by8 (nB gen)) ∧ Below W.heap.size W w' := fun W =>
    (putNumR_any none 0 0 [] gen W (Rd.nil _ _) (by omega)).mono fun e w' ⟨A', c', h1, h2, h3⟩ => ⟨A', _, c', h1, by have := numB_len9 (clampN_le gen); omega, h2, h3⟩
  have HPN := Lib.hid hpn
  clear hr1 hm1 hke hpn
  go_wp2_with fail
  go_region_held3 (fun w' => w'.cell? ⟨w.heap.size, 0, none⟩ = some (.int .i64 gen))
    (first | exact hk0 | assumption | go_keep)
    (first
      | (go_at_call 150
         (with_reducible refine (putFrameR_new A1 n1 c1 eb _ (HR1.out.mod0 M0.out) (by omega)).mono ?_)
         rintro e w2 ⟨A2, n2, c2, rfl, hn2, ho2, hb2⟩
         have HO2 := Lib.hid ho2
         have M2 : Hid (Mod Non w1 w2) := M0.out.trans0 (Mod.of_below hb2)
         have S2 := Lib.hid hb2.size
         have hk0 := HKE.out w2 M2.out
         clear hn2 ho2 hb2)
      | (go_at_call 140
         (with_reducible refine (HPN.out _).mono ?_)
         rintro e w3 ⟨A3, k3, c3, rfl, hk3, ho3, hb3⟩
         have HO3 := Lib.hid ho3
         have M23 : Hid (Mod Non w2 w3) := Mod.of_below hb3
         have M3 : Hid (Mod Non w1 w3) := M2.out.trans0 M23.out
         have hk0 := HKE.out w3 M3.out
         clear ho3 hb3)
      | (go_at_call 150
         (with_reducible refine (putFrameR_new A3 k3 c3 (nB gen) w3 (Rd.of_own HO3.out) (by omega)).mono ?_)
         rintro e w4 ⟨A4, n4, c4, rfl, hn4, ho4, hb4⟩
         have HO4 := Lib.hid ho4
         have M34 : Hid (Mod Non w3 w4) := Mod.of_below hb4
         have M4 : Hid (Mod Non w1 w4) := M3.out.trans0 M34.out
         have hk0 := HKE.out w4 M4.out
         clear hn4 ho4 hb4)
      | fail)
  all_goals
    obtain ⟨_, _, he2, hc2, hcm2⟩ := own_slice HO2.out
    cases he2
    obtain ⟨_, _, he4, hc4, hcm4⟩ := own_slice HO4.out
    cases he4
    have hmx : maxLen = 9223372036854775807 := rfl
    have hfin : FsPost V w (.returned (.tuple #[.slice A2 n2 c2, .slice A4 n4 c4])) w4 := by
      refine ⟨A2, n2, c2, A4, n4, c4, rfl, ?_, ?_, fun b hb => ?_, fun b hb => ?_, hc2, by omega, hc4, by omega, HM1.out.trans0 M4.out⟩
      · rw [HEB.out]
        exact ((Rd.of_own HO2.out).mod0 M23.out).mod0 M34.out
      · rw [HG.out]
        exact Rd.of_own HO4.out
      · have h1 := own_base HO2.out b hb
        have h2 := HM1.out.size
        have h3 := M0.out.size
        omega
      · have h1 := own_base HO4.out b hb
        have h2 := HM1.out.size
        have h3 := M3.out.size
        omega
    go_wp2_with fail
    go_ret2
    exact hfin

set_option maxRecDepth 100000 in
set_option maxHeartbeats 4000000 in
theorem needR_any (x : Vw) (w : World) (h : VwOk w x) :
    Calls Tryz.prog 71 #[x.val] w fun e w' => e = .returned (.int .i64 (needC x.v)) ∧ Mod Non w w' := by
  obtain ⟨gen, next, log, seq, A, c, ms⟩ := x
  obtain ⟨n, hn⟩ : ∃ n, ms.length = n := ⟨_, rfl⟩
  obtain ⟨V, hV⟩ : ∃ V, Vw.v ⟨gen, next, log, seq, A, c, ms⟩ = V := ⟨_, rfl⟩
  have hgen : V.gen = gen := by rw [← hV]; rfl
  have hck : ∀ W, Mod Non w W → Calls Tryz.prog 109 #[.agg #[.int .i64 gen, .int .i64 next, .int .i64 log, .int .i64 seq, .slice A n c]] W fun e w' => e = .returned (.int .i64 (if checkV V = true then 0 else 1)) ∧ Mod Non W w' := fun W hW => by
    have := checkR_any ⟨gen, next, log, seq, A, c, ms⟩ W (h.mod0 hW)
    unfold Vw.val at this
    simp only at this
    rw [hn, hV] at this
    exact this
  have hfs : ∀ W, Mod Non w W → Calls Tryz.prog 113 #[.agg #[.int .i64 gen, .int .i64 next, .int .i64 log, .int .i64 seq, .slice A n c]] W (FsPost V W) := fun W hW => by
    have := filesR_any ⟨gen, next, log, seq, A, c, ms⟩ W (h.mod0 hW)
    unfold Vw.val at this
    simp only at this
    rw [hn, hV] at this
    exact this
  have HCK := Lib.hid hck
  have HFS := Lib.hid hfs
  have HG := Lib.hid hgen
  rw [hV]
  unfold Vw.val
  simp only
  rw [hn]
  have HBX := Lib.hid (Blk.new w 30 #[.int .i64 gen, .int .i64 next, .int .i64 log, .int .i64 seq, .slice A n c])
  have HMA := Lib.hid ((Mod.refl Non w).alloc (.cells #[.int .i64 gen, .int .i64 next, .int .i64 log, .int .i64 seq, .slice A n c] 30))
  have hbx : ∀ W, Mod Non (w.alloc (.cells #[.int .i64 gen, .int .i64 next, .int .i64 log, .int .i64 seq, .slice A n c] 30)) W → Blk W w.heap.size 30 #[.int .i64 gen, .int .i64 next, .int .i64 log, .int .i64 seq, .slice A n c] := fun W hW => HBX.out.mod hW fun h => h
  have HBW := Lib.hid hbx
  clear hck hfs hgen hV hn h hbx
  by_cases hcv : checkV V = true
  · rw [if_pos hcv] at HCK
    obtain ⟨r, hr⟩ : ∃ r, needC V = r := ⟨_, rfl⟩
    have hr' : (36 : Int) + (foldN manP gen).size + (frameB (encE V)).length + (frameB (nB gen)).length = r := by
      rw [← hr]
      unfold needC
      rw [if_pos hcv, HG.out]
    rw [hr]
    have hl1 : (encE V).length ≤ 1048576 := by
      unfold encE
      rw [if_pos hcv]
      have h1 := (encV_len hcv).1
      have h2 := (encV_len hcv).2
      omega
    have hl2 : (nB gen).length ≤ 9 := nB_len gen
    have hl3 : (foldN manP gen).size ≤ 17 := by
      by_cases hr : 0 ≤ gen ∧ gen ≤ 1099511627776
      · rw [foldN_size hr]; decide
      · rw [foldN_0 hr]; omega
    have hf1 := frameB_len hl1
    have hf2 := frameB_len (b := nB gen) (by omega)
    have HF := Lib.hid (And.intro hl1 (And.intro hl2 (And.intro hl3 (And.intro hf1 hf2))))
    have HR := Lib.hid hr'
    have h17 : (foldN manP gen).size = 17 := by
      have h := checkV_gen hcv
      rw [HG.out] at h
      rw [foldN_size h]; rfl
    have H17 := Lib.hid h17
    clear h17
    obtain ⟨nm, hnm⟩ : ∃ nm, foldN manP gen = nm := ⟨_, rfl⟩
    have HNM := Lib.hid hnm
    clear hl1 hl2 hl3 hf1 hf2 hr hr' hcv hnm
    go_enter Tryz.func71, Tryz.ntmps71
    have hb := HBW.out _ (Mod.refl _ _)
    have x0 := hb.cell 0
    have x1 := hb.cell 1
    have x2 := hb.cell 2
    have x3 := hb.cell 3
    have x4 := hb.cell 4
    go_wp2_with fail
    refine (HCK.out _ HMA.out).mono ?_
    rintro e w1 ⟨rfl, hm1⟩
    have HM1 := Lib.hid hm1
    have hb := HBW.out _ HM1.out
    have y0 : w1.cell? ⟨w.heap.size, 0, none⟩ = some (.int .i64 gen) := hb.cell 0
    have y1 : w1.cell? ⟨w.heap.size, 1, none⟩ = some (.int .i64 next) := hb.cell 1
    have y2 : w1.cell? ⟨w.heap.size, 2, none⟩ = some (.int .i64 log) := hb.cell 2
    have y3 : w1.cell? ⟨w.heap.size, 3, none⟩ = some (.int .i64 seq) := hb.cell 3
    have y4 : w1.cell? ⟨w.heap.size, 4, none⟩ = some (.slice A n c) := hb.cell 4
    clear hm1 hb x0 x1 x2 x3 x4
    go_wp2_with fail
    refine (HFS.out w1 (HMA.out.trans0 HM1.out)).mono ?_
    rintro e w2 ⟨FA, fn, fc, FB, fm, fd, rfl, hr1, hr2, _, _, _, _, _, _, hm2⟩
    have HM2 := Lib.hid (HM1.out.trans0 hm2)
    have hfn : (frameB (encE V)).length = fn := by simpa using hr1.1
    have hfm : (frameB (nB gen)).length = fm := by have := hr2.1; rw [HG.out] at this; simpa using this
    have hb := HBW.out _ HM2.out
    have z0 : w2.cell? ⟨w.heap.size, 0, none⟩ = some (.int .i64 gen) := hb.cell 0
    have hfin : (32 : Int) + nm.size + 4 + fn + fm = r := by
      have := HR.out
      rw [HNM.out, hfn, hfm] at this
      omega
    have hbd : nm.size ≤ 1000 ∧ fn ≤ 100000000 ∧ fm ≤ 100000000 := by
      obtain ⟨h1, h2, h3, h4, h5⟩ := HF.out
      rw [HNM.out] at h3
      omega
    obtain ⟨b1, b2, b3⟩ := hbd
    have HFIN := Lib.hid hfin
    have h17 : nm.size = 17 := by
      have h := H17.out
      rw [HNM.out] at h
      exact h
    have hfin2 : (33 : Int) + fn + 16 + 4 + fm = r := by omega
    have HFIN2 := Lib.hid hfin2
    clear hm2 hr1 hr2 hfn hfm hb hfin y0 y1 y2 y3 y4 h17 hfin2
    go_wp2_with fail
    go_ret
    refine ⟨?_, HMA.out.trans0 HM2.out⟩
    rw [← HFIN2.out]
    rfl
  · rw [if_neg hcv] at HCK
    have hr : needC V = 0 := by unfold needC; rw [if_neg hcv]
    rw [hr]
    clear hr hcv
    go_enter Tryz.func71, Tryz.ntmps71
    have hb := HBW.out _ (Mod.refl _ _)
    have x0 := hb.cell 0
    have x1 := hb.cell 1
    have x2 := hb.cell 2
    have x3 := hb.cell 3
    have x4 := hb.cell 4
    go_wp2_with fail
    refine (HCK.out _ HMA.out).mono ?_
    rintro e w1 ⟨rfl, hm1⟩
    have HM1 := Lib.hid hm1
    clear hm1
    go_wp2_with fail
    go_ret
    exact ⟨rfl, HMA.out.trans0 HM1.out⟩

end Go.Proofs.YtdpjnpjmokncdaaGreatDoor

/- package cat on the plain disk: sweep, write, Save, Clean. Plain. -/
namespace Go.Proofs.YtdpjnpjmokncdaaGreatDoor
open Go.RowKit

def shadN : ByteArray := ⟨#[99, 117, 114, 126]⟩
def tabP : ByteArray := ⟨#[116, 97, 98, 47]⟩
def logP : ByteArray := ⟨#[119, 97, 108, 47]⟩
theorem shadN_named : named shadN = true := by decide +kernel

/-- the names of all files, rising. -/
def namesD (D : Dk) : List ByteArray := ((D.files.map keyF).mergeSort fun x y => decide (x ≤ y)).map fun l => ⟨l.toArray⟩
theorem msort_le (a : List (List UInt8)) : (a.mergeSort fun x y => decide (x ≤ y)).Pairwise (fun a b => a ≤ b) := by
  have := List.pairwise_mergeSort (le := fun x y : List UInt8 => decide (x ≤ y)) (fun a b c h1 h2 => by
    simp only [decide_eq_true_eq] at *
    exact List.le_trans h1 h2) (fun a b => by
    simp only [Bool.or_eq_true, decide_eq_true_eq]
    exact List.le_total a b) a
  exact this.imp fun h => by simpa using h
theorem msort_perm {a b : List (List UInt8)} (h : a.Perm b) : (a.mergeSort fun x y => decide (x ≤ y)) = (b.mergeSort fun x y => decide (x ≤ y)) :=
  ((List.mergeSort_perm a _).trans (h.trans (List.mergeSort_perm b _).symm)).eq_of_pairwise (fun _ _ _ _ h1 h2 => List.le_antisymm h1 h2) (msort_le a) (msort_le b)
theorem namesD_of {D : Dk} {L : List ByteArray} (h : NamesAre D L) : L = namesD D := by
  obtain ⟨ss, hp, rfl⟩ := h
  unfold namesD
  rw [msort_perm hp]
  rfl
theorem namesD_are (D : Dk) : NamesAre D (namesD D) := ⟨D.files.map keyF, .refl _, rfl⟩
theorem namesD_sorted {D : Dk} {L : List Fl} (h : SortedOf D.files L) : namesD D = L.map (·.name) := h.names (namesD_are D)
theorem namesD_perm (D : Dk) (nd : (D.files.map (·.name)).Nodup) : (namesD D).Perm (D.files.map (·.name)) := by
  obtain ⟨L, hL⟩ := sorted_of D nd
  rw [namesD_sorted hL]
  exact hL.perm.map _
theorem namesD_mem {D : Dk} (nd : (D.files.map (·.name)).Nodup) {nm : ByteArray} : nm ∈ namesD D ↔ (findF D.files nm).isSome = true := by
  rw [(namesD_perm D nd).mem_iff]
  constructor
  · intro h
    obtain ⟨f, hf⟩ := findF_of_name h
    rw [hf]; rfl
  · intro h
    obtain ⟨f, hf⟩ := Option.isSome_iff_exists.1 h
    exact List.mem_map.2 ⟨f, findF_mem hf, find_name hf⟩
theorem namesD_len (D : Dk) (nd : (D.files.map (·.name)).Nodup) : (namesD D).length = D.files.length := by
  have := (namesD_perm D nd).length_eq
  simpa using this
theorem namesD_nodup {D : Dk} (nd : (D.files.map (·.name)).Nodup) : (namesD D).Nodup := (namesD_perm D nd).nodup_iff.2 nd

/-- remove the files of a list that are so; stop at the first error. -/
def sweepL (so : ByteArray → Bool) : List ByteArray → Dk → Dk × Int
  | [], D => (D, 0)
  | n :: r, D => if so n = true then (if removeE D n = 0 then sweepL so r (removeD D n) else (removeD D n, removeE D n)) else sweepL so r D
def sweepD (so : ByteArray → Bool) (D : Dk) : Dk × Int := sweepL so (namesD D) D
def writeD (D : Dk) (nm : ByteArray) (b : List UInt8) : Dk × Int :=
  if (appAll nm D (piecesB b)).2 = 0 then (syncD (appAll nm D (piecesB b)).1 nm, syncE (appAll nm D (piecesB b)).1 nm) else appAll nm D (piecesB b)

def soOwn (own nm : ByteArray) : Bool := decide (nm = shadN) || decide (nm = own)
def soOld (own nm : ByteArray) : Bool := (numF manP nm).isSome && decide (nm ≠ own)
/-- behind the head of a Save. -/
def saveT (D : Dk) (v : Vs) : Dk × Int :=
  let own := foldN manP v.gen
  let s1 := sweepD (soOwn own) D
  if s1.2 = 0 then
    let s2 := writeD s1.1 own (frameB (encE v))
    if s2.2 = 0 then
      let s3 := writeD s2.1 shadN (frameB (nB v.gen))
      if s3.2 = 0 then
        if renameE s3.1 shadN curN = 0 then sweepD (soOld own) (renameD s3.1 shadN curN) else (renameD s3.1 shadN curN, renameE s3.1 shadN curN)
      else s3
    else s2
  else s1
def saveD (D : Dk) (v : Vs) : Dk × Int :=
  if checkV v = true ∧ v.gen ≠ 0 then (if D.off = true then (D, 5) else if D.n - D.used < needC v then (D, 4) else saveT D v) else (D, 1)
def cleanSo (v : Vs) (nm : ByteArray) : Bool := match numF manP nm with
  | some n => decide (n ≠ v.gen)
  | none => match numF tabP nm with
    | some n => !(v.tables.any fun m => decide (m.num = n))
    | none => decide (nm = shadN) || (match numF logP nm with | some n => decide (n < v.log) | none => false)
def cleanD (D : Dk) (v : Vs) : Dk × Int := if checkV v = true then sweepD (cleanSo v) D else (D, 1)

/-! what they keep -/
theorem sweepL_ok (so : ByteArray → Bool) : ∀ (L : List ByteArray) {D : Dk}, DkOk D → DkOk (sweepL so L D).1
  | [], _, ok => ok
  | n :: r, D, ok => by
    rw [sweepL]
    split
    · split
      · exact sweepL_ok so r (removeD_ok ok n)
      · exact removeD_ok ok n
    · exact sweepL_ok so r ok
theorem sweepD_ok (so : ByteArray → Bool) {D : Dk} (ok : DkOk D) : DkOk (sweepD so D).1 := sweepL_ok so _ ok
theorem writeD_ok {D : Dk} (ok : DkOk D) (nm : ByteArray) (b : List UInt8) : DkOk (writeD D nm b).1 := by
  unfold writeD
  split
  · exact syncD_ok (appAll_ok ok _) _
  · exact appAll_ok ok _
theorem saveT_ok {D : Dk} (ok : DkOk D) (v : Vs) : DkOk (saveT D v).1 := by
  unfold saveT
  simp only
  have o1 := sweepD_ok (soOwn (foldN manP v.gen)) ok
  split
  · have o2 := writeD_ok o1 (foldN manP v.gen) (frameB (encE v))
    split
    · have o3 := writeD_ok o2 shadN (frameB (nB v.gen))
      split
      · split
        · exact sweepD_ok _ (renameD_ok o3 _ _)
        · exact renameD_ok o3 _ _
      · exact o3
    · exact o2
  · exact o1
theorem saveD_ok {D : Dk} (ok : DkOk D) (v : Vs) : DkOk (saveD D v).1 := by
  unfold saveD
  split
  · split
    · exact ok
    · split
      · exact ok
      · exact saveT_ok ok v
  · exact ok
theorem cleanD_ok {D : Dk} (ok : DkOk D) (v : Vs) : DkOk (cleanD D v).1 := by
  unfold cleanD
  split
  · exact sweepD_ok _ ok
  · exact ok

/-! one step -/
theorem removeD_files {D : Dk} (nm : ByteArray) : (removeD D nm).files = if removeE D nm = 0 then delF D.files nm else D.files := by
  unfold removeD removeE
  by_cases hn : named nm = true
  · by_cases ho : D.off = true
    · rw [if_neg (by rw [ho]; simp), if_pos hn, if_pos ho, if_neg (by omega)]
    · have ho' : D.off = false := by simpa using ho
      rw [if_pos ⟨hn, ho'⟩, if_pos hn, if_neg ho]
      cases hf : findF D.files nm with
      | none => simp only; rw [if_neg (by omega)]
      | some f =>
        simp only
        split
        · rfl
        · exact spendD_files _ _
  · rw [if_neg (fun h => hn h.1), if_neg hn, if_neg (by omega)]
theorem removeD_other {D : Dk} {nm k : ByteArray} (h : k ≠ nm) : findF (removeD D nm).files k = findF D.files k := by
  rw [removeD_files]
  split
  · exact findF_del_other (fun e => h e.symm) _
  · rfl
theorem removeD_gone {D : Dk} (nd : (D.files.map (·.name)).Nodup) {nm : ByteArray} (h : removeE D nm = 0) : findF (removeD D nm).files nm = none := by
  rw [removeD_files, if_pos h]
  exact findF_del_same nd
theorem appendD_other {D : Dk} {nm k : ByteArray} (h : k ≠ nm) (b : List UInt8) : findF (appendD D nm b).files k = findF D.files k := by
  unfold appendD
  split
  · split
    · exact findF_put_other _ (by rw [fileA_name]; exact fun e => h e.symm) _
    · rw [spendD_files]
  · rfl
theorem syncD_other {D : Dk} {nm k : ByteArray} (h : k ≠ nm) : findF (syncD D nm).files k = findF D.files k := by
  unfold syncD
  split
  · split
    · rfl
    · split
      · exact findF_put_other _ (fun e => h e.symm) _
      · rw [spendD_files]
  · rfl
theorem appAll_other {nm k : ByteArray} (h : k ≠ nm) (l : List (List UInt8)) (D : Dk) : findF (appAll nm D l).1.files k = findF D.files k := by
  unfold appAll
  suffices ∀ s : Dk × Int, findF (l.foldl (appStep nm) s).1.files k = findF s.1.files k from this _
  intro s
  induction l generalizing s with
  | nil => rfl
  | cons b r ih =>
    rw [List.foldl_cons, ih]
    unfold appStep
    split
    · exact appendD_other h b
    · rfl
theorem writeD_other {D : Dk} {nm k : ByteArray} (h : k ≠ nm) (b : List UInt8) : findF (writeD D nm b).1.files k = findF D.files k := by
  unfold writeD
  split
  · rw [syncD_other h, appAll_other h]
  · exact appAll_other h _ _
theorem sweepL_other {so : ByteArray → Bool} {k : ByteArray} (h : so k = false) : ∀ (L : List ByteArray) (D : Dk), findF (sweepL so L D).1.files k = findF D.files k
  | [], _ => rfl
  | n :: r, D => by
    rw [sweepL]
    split
    · rename_i hs
      have hk : k ≠ n := fun e => by rw [e, hs] at h; cases h
      split
      · rw [sweepL_other h r, removeD_other hk]
      · exact removeD_other hk
    · exact sweepL_other h r D
theorem sweepL_less {so : ByteArray → Bool} {k : ByteArray} : ∀ (L : List ByteArray) {D : Dk}, DkOk D → findF D.files k = none → findF (sweepL so L D).1.files k = none
  | [], _, _, h => h
  | n :: r, D, ok, h => by
    have hr : findF (removeD D n).files k = none := by
      by_cases hk : k = n
      · rw [removeD_files]
        split
        · rw [hk]; exact findF_del_same ok.nd
        · exact h
      · rw [removeD_other hk]; exact h
    rw [sweepL]
    split
    · split
      · exact sweepL_less r (removeD_ok ok n) hr
      · exact hr
    · exact sweepL_less r ok h
theorem sweepL_gone {so : ByteArray → Bool} {k : ByteArray} (hs : so k = true) : ∀ (L : List ByteArray) {D : Dk}, DkOk D → (sweepL so L D).2 = 0 → k ∈ L → findF (sweepL so L D).1.files k = none
  | n :: r, D, ok, h0, hk => by
    rw [sweepL] at h0 ⊢
    rcases List.mem_cons.1 hk with rfl | hk
    · rw [if_pos hs] at h0 ⊢
      split at h0
      · rename_i hr
        rw [if_pos hr]
        exact sweepL_less r (removeD_ok ok _) (removeD_gone ok.nd hr)
      · rename_i hr
        exact absurd h0 hr
    · split at h0
      · rename_i hn
        rw [if_pos hn]
        split at h0
        · rename_i hr
          rw [if_pos hr]
          exact sweepL_gone hs r (removeD_ok ok _) h0 hk
        · rename_i hr
          exact absurd h0 hr
      · rename_i hn
        rw [if_neg hn]
        exact sweepL_gone hs r ok h0 hk
theorem sweepD_other {so : ByteArray → Bool} {k : ByteArray} (h : so k = false) (D : Dk) : findF (sweepD so D).1.files k = findF D.files k := sweepL_other h _ D
theorem sweepD_gone {so : ByteArray → Bool} {k : ByteArray} (hs : so k = true) {D : Dk} (ok : DkOk D) (h0 : (sweepD so D).2 = 0) : findF (sweepD so D).1.files k = none := by
  by_cases hk : k ∈ namesD D
  · exact sweepL_gone hs _ ok h0 hk
  · refine sweepL_less _ ok ?_
    cases hf : findF D.files k with
    | none => rfl
    | some f => exact absurd ((namesD_mem ok.nd).2 (by rw [hf]; rfl)) hk
theorem sweepD_less {so : ByteArray → Bool} {k : ByteArray} {D : Dk} (ok : DkOk D) (h : findF D.files k = none) : findF (sweepD so D).1.files k = none := sweepL_less _ ok h
/-- a sweep that went well keeps what is not so, and nothing else. -/
theorem sweepD_find {so : ByteArray → Bool} {D : Dk} (ok : DkOk D) (h0 : (sweepD so D).2 = 0) (k : ByteArray) : findF (sweepD so D).1.files k = if so k = true then none else findF D.files k := by
  split
  · rename_i h; exact sweepD_gone h ok h0
  · rename_i h; exact sweepD_other (by simpa using h) D

theorem syncD_zero {D : Dk} {nm : ByteArray} {f : Fl} (h : syncE D nm = 0) (hf : findF D.files nm = some f) : findF (syncD D nm).files nm = some ⟨nm, f.bytes.length, f.bytes⟩ := by
  unfold syncE at h
  split at h
  · rename_i hn
    split at h
    · omega
    · rename_i ho
      rw [if_pos (by rw [hf]; rfl)] at h
      unfold syncD
      rw [if_pos ⟨hn, by simpa using ho⟩, hf]
      simp only
      rw [if_pos h]
      exact findF_put_same ⟨nm, f.bytes.length, f.bytes⟩ _
  · omega
theorem appendD_zero {D : Dk} {nm : ByteArray} {b : List UInt8} (h : appendE D nm b = 0) : ∃ s, findF (appendD D nm b).files nm = some ⟨nm, s, fileB D nm ++ b⟩ := by
  unfold appendE at h
  split at h
  · rename_i hn
    split at h
    · omega
    · rename_i ho
      unfold appendD
      rw [if_pos ⟨hn.1, hn.2, by simpa using ho⟩, if_pos h]
      have := findF_put_same (fileA D nm b) D.files
      rw [fileA_name] at this
      simp only [this]
      unfold fileA fileB
      split
      · rename_i f hf; exact ⟨f.safe, by rw [hf]⟩
      · rename_i hf; exact ⟨0, by rw [hf]; rfl⟩
  · omega
theorem appAll_zero {nm : ByteArray} : ∀ (l : List (List UInt8)) {D : Dk} {f : Fl}, findF D.files nm = some f → (appAll nm D l).2 = 0 → ∃ s, findF (appAll nm D l).1.files nm = some ⟨nm, s, f.bytes ++ l.flatten⟩
  | [], D, f, hf, _ => by
    have hn := find_name hf
    refine ⟨f.safe, ?_⟩
    show findF D.files nm = _
    rw [hf]
    cases f
    simp only at hn
    simp [hn]
  | b :: l, D, f, hf, h0 => by
    by_cases hb : appendE D nm b = 0
    · rw [appAll_cons hb] at h0 ⊢
      obtain ⟨s, hs⟩ := appendD_zero hb
      obtain ⟨s', hs'⟩ := appAll_zero l hs h0
      refine ⟨s', ?_⟩
      rw [hs', fileB_of hf]
      simp
    · exfalso
      have h1 : appAll nm D [b] = (appendD D nm b, appendE D nm b) := by
        unfold appAll
        rw [List.foldl_cons, List.foldl_nil]
        unfold appStep
        rw [if_pos rfl]
      have h2 := appAll_stop (nm := nm) (D := D) (l := [b]) (k := b :: l) ⟨l, rfl⟩ (by rw [h1]; exact hb)
      rw [h2, h1] at h0
      exact hb h0
theorem writeD_zero {D : Dk} {nm : ByteArray} {b : List UInt8} (h : (writeD D nm b).2 = 0) (hf : findF D.files nm = none) (hb : b ≠ []) : findF (writeD D nm b).1.files nm = some ⟨nm, b.length, b⟩ := by
  obtain ⟨hfl, -⟩ := pieces_flat _ b (Nat.le_refl _)
  unfold writeD at h ⊢
  split at h
  · rename_i h0
    rw [if_pos h0]
    have key : ∃ s, findF (appAll nm D (piecesB b)).1.files nm = some ⟨nm, s, b⟩ := by
      cases hp : piecesB b with
      | nil => rw [hp] at hfl; exact absurd hfl.symm hb
      | cons p r =>
        rw [hp] at hfl h0
        by_cases hq : appendE D nm p = 0
        · rw [appAll_cons hq] at h0 ⊢
          obtain ⟨s, hs⟩ := appendD_zero hq
          obtain ⟨s', hs'⟩ := appAll_zero r hs h0
          refine ⟨s', ?_⟩
          rw [hs', fileB_none hf, ← hfl]
          simp
        · exfalso
          have h1 : appAll nm D [p] = (appendD D nm p, appendE D nm p) := by
            unfold appAll
            rw [List.foldl_cons, List.foldl_nil]
            unfold appStep
            rw [if_pos rfl]
          have h2 := appAll_stop (nm := nm) (D := D) (l := [p]) (k := p :: r) ⟨r, rfl⟩ (by rw [h1]; exact hq)
          rw [h2, h1] at h0
          exact hq h0
    obtain ⟨s, hs⟩ := key
    exact syncD_zero h hs
  · rename_i h0
    exact absurd h h0

theorem renameD_not {D : Dk} {a b : ByteArray} (h : renameE D a b ≠ 0) : (renameD D a b).files = D.files := by
  unfold renameE at h
  unfold renameD
  split
  · rename_i hn
    rw [if_pos ⟨hn.1, hn.2.1⟩, if_neg (by rw [hn.2.2]; simp)] at h
    split
    · rfl
    · rename_i f hf
      rw [hf] at h
      simp only at h
      rw [if_neg h, spendD_files]
  · rfl
theorem renameD_zero {D : Dk} (_ok : DkOk D) {a b : ByteArray} {f : Fl} (h : renameE D a b = 0) (_hab : a ≠ b) (hf : findF D.files a = some f) (k : ByteArray) :
    findF (renameD D a b).files k = if k = b then some { f with name := b } else if k = a then none else findF D.files k := by
  unfold renameE at h
  split at h
  · rename_i hn
    split at h
    · omega
    · rename_i ho
      rw [hf] at h
      simp only at h
      unfold renameD
      rw [if_pos ⟨hn.1, hn.2, by simpa using ho⟩, hf]
      simp only
      rw [if_pos h]
      simp only
      split
      · rename_i hk
        rw [hk]
        exact findF_put_same { f with name := b } _
      · rename_i hk
        rw [findF_put_other { f with name := b } (fun e => hk e.symm)]
        split
        · rename_i hk2
          rw [hk2]
          exact findF_del_same _ok.nd
        · rename_i hk2
          exact findF_del_other (fun e => hk2 e.symm) _
  · omega

end Go.Proofs.YtdpjnpjmokncdaaGreatDoor

/- sawyerref11: Write, remove. -/
namespace Go.Proofs.YtdpjnpjmokncdaaGreatDoor
open Go.RowKit

theorem RkIs.rE {w : World} {E : Nat → Prop} {r : Nat} {D : Dk} (h : RkIs w E r D) : E r := by
  obtain ⟨_, _, _, _, _, _, hE, _, _⟩ := h
  exact hE

/-- between two rounds of Write. -/
structure WqM (E : Nat → Prop) (r : Nat) (nm : ByteArray) (b : List UInt8) (S : Dk × Int) (w : World) (q : Nat) (E' : Nat → Prop) (D' : Dk) (wr : World) : Prop where
  disk : RkIs wr E' r D'
  ok : DkOk D'
  mod : Mod (fun k => k = r) w wr
  sub : ∀ k, E' k → E k ∨ w.heap.size ≤ k
  eq : (piecesB (b.drop q)).foldl (appStep nm) (D', 0) = S

set_option maxRecDepth 100000 in
set_option maxHeartbeats 2000000 in
theorem writeR_any (E : Nat → Prop) (r : Nat) (D : Dk) (nm : ByteArray) (A : Option Addr) (m c : Nat) (b : List UInt8) (w : World) (h : RkIs w E r D) (ok : DkOk D) (g : RdO w (fun k => k = r) A m (by8 b))
    (hmc : m ≤ c) (hcm : c ≤ 9223372036854775807) (hm : m ≤ 140737488355328) (hsz : nm.size ≤ 9223372036854775807) :
    Calls Tryz.prog 114 #[.pointer (some ⟨r, 0, none⟩), .string nm, .slice A m c] w (RkPost E r (writeD D nm b).1 (.int .i64 (writeD D nm b).2) w) := by
  obtain ⟨R, hR⟩ : ∃ R, writeD D nm b = R := ⟨_, rfl⟩
  rw [hR]
  obtain ⟨s, hs⟩ : ∃ s, appAll nm D (piecesB b) = s := ⟨_, rfl⟩
  have hR' : R = if s.2 = 0 then (syncD s.1 nm, syncE s.1 nm) else s := by rw [← hR, ← hs]; rfl
  have HR := Lib.hid hR'
  have hbl : b.length = m := by simpa using g.1.1
  have HBL := Lib.hid hbl
  have HG := Lib.hid g
  have H0 : Hid (WqM E r nm b s w 0 E D w) := ⟨h, ok, Mod.refl _ _, fun k hk => .inl hk, by rw [List.drop_zero]; exact hs⟩
  clear hR hR' hs hbl h ok g
  go_enter Tryz.func114, Tryz.ntmps114
  go_wp2_with fail
  go_loopw [7] (fun i wr => ∃ (q : Nat) (E' : Nat → Prop) (D' : Dk), q ≤ m + 4096 ∧ i = .int .i64 q ∧ Hid (WqM E r nm b s w q E' D' wr)) (fun i _ => m + 4096 - (intOf i).toNat)
  case atStart => exact ⟨0, E, D, by omega, rfl, H0.out⟩
  case round =>
    obtain ⟨q, E', D', hq, rfl, HP⟩ := hrel
    rename World => wr
    by_cases hlt : q < m
    · have hgr : Rd wr A m (by8 b) := HG.out.1.mod HP.out.mod HG.out.2
      obtain ⟨z, hz⟩ : ∃ z, min m (q + 4096) = z := ⟨_, rfl⟩
      have hz0 : (min (m : Int) ((q : Int) + 4096)) = (z : Int) := by omega
      have hqz : q < z := by omega
      have hzm : z ≤ m := by omega
      have hcq : c ≠ q := by omega
      have hcut := hgr.cut (k := q) (cap := c) (by omega) hmc
      rw [if_neg hcq, ← by8_drop] at hcut
      have htk := hcut.take (k := z - q) (by omega)
      rw [← by8_take] at htk
      have hoff : ∀ g, blkOf A = some g → g ≠ r := fun g hg => HG.out.2 (by omega) g hg
      obtain ⟨g, o, rfl, hc0⟩ := hgr.2 (by omega)
      have hpe : piecesB (b.drop q) = (b.drop q).take (z - q) :: piecesB (b.drop (q + 4096)) := by
        have hl : (b.drop q).length = m - q := by rw [List.length_drop, HBL.out]
        rw [piecesB, dif_neg (by omega), List.drop_drop]
        congr 1
        by_cases h4 : q + 4096 ≤ m
        · rw [show z - q = 4096 by omega]
        · rw [List.take_of_length_le (by omega), List.take_of_length_le (by omega)]
      have hadr : Option.map (fun x : Addr => x.add q) (some ⟨g, o, none⟩) = some ⟨g, o + q, none⟩ := by simp [Addr.add]
      rw [hadr] at htk
      have hpc : RdO wr (fun k => k = r) (some ⟨g, o + q, none⟩) (z - q) (by8 ((b.drop q).take (z - q))) := ⟨htk, fun _ k hk => by
        have := hoff g rfl
        cases hk
        exact this⟩
      have HPC := Lib.hid hpc
      have HPE := Lib.hid hpe
      obtain ⟨pc, hpcd⟩ : ∃ pc, (b.drop q).take (z - q) = pc := ⟨_, rfl⟩
      rw [hpcd] at HPC HPE
      obtain ⟨E1, hE1⟩ : ∃ E1, appendE D' nm pc = E1 := ⟨_, rfl⟩
      have HE1 := Lib.hid hE1
      have i1 : (0 : Int) ≤ (q : Int) := by omega
      have i2 : (q : Int) ≤ (z : Int) := by omega
      have i3 : (z : Int) ≤ (c : Int) := by omega
      have i4 : (q : Int) < (m : Int) := by omega
      have i5 : IntKind.i64.wrap ((q : Int) + 4096) = (q : Int) + 4096 := IntWalk.i64_in _ (by omega)
      clear hgr hcut htk hoff hc0 hpe hpc hpcd hadr hz hE1
      go_wp2_with fail
      refine (appendR_any nm (some ⟨g, o + q, none⟩) (z - q) (c - q) pc E' r D' _ HP.out.disk HP.out.ok HPC.out hsz (by omega)).mono ?_
      rw [HE1.out]
      rintro e w1 ⟨rfl, F2, hd2, hm2, hf2⟩
      have hst : (piecesB (b.drop (q + 4096))).foldl (appStep nm) (appendD D' nm pc, E1) = s := by
        have := HP.out.eq
        rw [HPE.out, List.foldl_cons] at this
        unfold appStep at this
        rw [if_pos rfl, HE1.out] at this
        exact this
      have HST := Lib.hid hst
      have HD2 := Lib.hid hd2
      have HM2 := Lib.hid (HP.out.mod.trans hm2 fun k hk => .inl hk)
      have HF2 : Hid (∀ k, F2 k → E k ∨ w.heap.size ≤ k) := fun k hk => by
        have := HP.out.mod.size
        rcases hf2 k hk with h | h
        · exact HP.out.sub k h
        · exact .inr (by omega)
      have HOK2 := Lib.hid (appendD_ok HP.out.ok (nm := nm) (b := pc))
      clear hst hd2 hm2 hf2
      by_cases he : E1 = 0
      · subst he
        go_wp2_with fail
        go_roundw
        case rel => exact ⟨q + 4096, F2, appendD D' nm pc, by omega, by go_num, ⟨HD2.out, HOK2.out, HM2.out, HF2.out, HST.out⟩⟩
        case measure => simp [intOf]; omega
      · have he1 : (E1 == 0) = false := by simp [he]
        have he2 : (E1 != 0) = true := by simp [he]
        have hss : s = (appendD D' nm pc, E1) := by
          rw [← HST.out]
          exact appStep_stop (by exact he) _
        have hRs : R = (appendD D' nm pc, E1) := by rw [HR.out, hss, if_neg (by exact he)]
        have HRS := Lib.hid hRs
        clear hss hRs he
        go_wp2_with fail
        go_ret
        rw [HRS.out]
        exact ⟨rfl, F2, HD2.out, HM2.out, HF2.out⟩
    · have hss : s = (D', 0) := by
        rw [← HP.out.eq, List.drop_eq_nil_of_le (by rw [HBL.out]; omega), piecesB, dif_pos List.length_nil]
        rfl
      have hRs : R = (syncD D' nm, syncE D' nm) := by rw [HR.out, hss, if_pos rfl]
      have HRS := Lib.hid hRs
      obtain ⟨E1, hE1⟩ : ∃ E1, syncE D' nm = E1 := ⟨_, rfl⟩
      have HE1 := Lib.hid hE1
      clear hss hRs hE1
      go_wp2_with fail
      refine (syncR_any nm E' r D' _ HP.out.disk HP.out.ok hsz).mono ?_
      rw [HE1.out]
      rintro e w1 ⟨rfl, F2, hd2, hm2, hf2⟩
      have HD2 := Lib.hid hd2
      have HM2 := Lib.hid (HP.out.mod.trans hm2 fun k hk => .inl hk)
      have HF2 : Hid (∀ k, F2 k → E k ∨ w.heap.size ≤ k) := fun k hk => by
        have := HP.out.mod.size
        rcases hf2 k hk with h | h
        · exact HP.out.sub k h
        · exact .inr (by omega)
      clear hd2 hm2 hf2
      go_wp2_with fail
      go_ret
      rw [HRS.out, HE1.out]
      exact ⟨rfl, F2, HD2.out, HM2.out, HF2.out⟩

/-- of the files named, those that are there, removed. -/
def remL : List ByteArray → Dk → Dk × Int
  | [], D => (D, 0)
  | n :: l, D => if (findF D.files n).isSome = true then (if removeE D n = 0 then remL l (removeD D n) else (removeD D n, removeE D n)) else remL l D

/-- between two rounds of remove. -/
structure RqM (E : Nat → Prop) (r : Nat) (L : List ByteArray) (S : Dk × Int) (w : World) (q : Nat) (E' : Nat → Prop) (D' : Dk) (wr : World) : Prop where
  disk : RkIs wr E' r D'
  ok : DkOk D'
  mod : Mod (fun k => k = r) w wr
  sub : ∀ k, E' k → E k ∨ w.heap.size ≤ k
  eq : remL (L.drop q) D' = S

set_option maxRecDepth 100000 in
set_option maxHeartbeats 2000000 in
theorem remL_any (E : Nat → Prop) (r : Nat) (D : Dk) (A : Option Addr) (n c : Nat) (L : List ByteArray) (w : World) (h : RkIs w E r D) (ok : DkOk D) (g : RdO w (fun k => k = r) A n (strs L))
    (hsz : ∀ nm ∈ L, nm.size ≤ 9223372036854775807) (hn : n ≤ 9223372036854775807) :
    Calls Tryz.prog 112 #[.pointer (some ⟨r, 0, none⟩), .slice A n c] w (RkPost E r (remL L D).1 (.int .i64 (remL L D).2) w) := by
  obtain ⟨R, hR⟩ : ∃ R, remL L D = R := ⟨_, rfl⟩
  rw [hR]
  have hll : L.length = n := by have := g.1.1; simpa [strs] using this
  have HLL := Lib.hid hll
  have HG := Lib.hid g
  have HSZ := Lib.hid hsz
  have H0 : Hid (RqM E r L R w 0 E D w) := ⟨h, ok, Mod.refl _ _, fun k hk => .inl hk, by rw [List.drop_zero]; exact hR⟩
  clear hR hll h ok g hsz
  go_enter Tryz.func112, Tryz.ntmps112
  go_wp2_with fail
  go_loopw [5] (fun i wr => ∃ (q : Nat) (E' : Nat → Prop) (D' : Dk), q ≤ n ∧ i = .int .i64 q ∧ Hid (RqM E r L R w q E' D' wr)) (fun i _ => n - (intOf i).toNat)
  case atStart => exact ⟨0, E, D, by omega, rfl, H0.out⟩
  case round =>
    obtain ⟨q, E', D', hq, rfl, HP⟩ := hrel
    rename World => wr
    by_cases hlt : q < n
    · obtain ⟨b, o, rfl, u, hu, hc⟩ := (HG.out.1.mod HP.out.mod HG.out.2).at_ hlt
      unfold strs at hu
      rw [List.getElem?_map] at hu
      cases hx : L[q]? with
      | none => rw [hx] at hu; cases hu
      | some nm =>
        rw [hx] at hu
        simp only [Option.map_some, Option.some.injEq] at hu
        subst hu
        have hsn := HSZ.out nm (List.mem_of_getElem? hx)
        have hdr : L.drop q = nm :: L.drop (q + 1) := by
          rw [List.drop_eq_getElem_cons (by rw [HLL.out]; exact hlt)]
          congr 1
          have := List.getElem?_eq_getElem (l := L) (i := q) (by rw [HLL.out]; exact hlt)
          rw [this] at hx
          exact Option.some.inj hx
        have heq := HP.out.eq
        rw [hdr, remL] at heq
        have i1 : (0 : Int) ≤ (q : Int) := by omega
        have i2 : (q : Int) < (n : Int) := by omega
        obtain ⟨hb, hhb⟩ : ∃ hb, (findF D'.files nm).isSome = hb := ⟨_, rfl⟩
        have hh : Calls Tryz.prog 97 #[.pointer (some ⟨r, 0, none⟩), .string nm] wr fun e w' => e = .returned (.bool hb) ∧ wr = w' := by
          have := hasR_any nm E' r D' wr HP.out.disk HP.out.ok.nd
          rw [hhb] at this
          exact this
        have HH := Lib.hid hh
        rw [hhb] at heq
        clear hx hdr hhb hh
        cases hb with
        | false =>
          rw [if_neg (by simp)] at heq
          have HEQ := Lib.hid heq
          clear heq
          go_wp2_with (first
            | (go_at_call 97; refine HH.out.mono ?_; rintro e w1 ⟨rfl, rfl⟩))
          go_roundw
          case rel => exact ⟨q + 1, E', D', by omega, by go_num, ⟨HP.out.disk, HP.out.ok, HP.out.mod, HP.out.sub, HEQ.out⟩⟩
          case measure => simp [intOf]; omega
        | true =>
          rw [if_pos rfl] at heq
          obtain ⟨E1, hE1⟩ : ∃ E1, removeE D' nm = E1 := ⟨_, rfl⟩
          rw [hE1] at heq
          have hrm : Calls Tryz.prog 149 #[.pointer (some ⟨r, 0, none⟩), .string nm] wr (RkPost E' r (removeD D' nm) (.int .i64 E1) wr) := by
            have := removeR_any nm E' r D' wr HP.out.disk HP.out.ok hsn
            rw [hE1] at this
            exact this
          have HRM := Lib.hid hrm
          clear hrm hE1
          by_cases he : E1 = 0
          · subst he
            rw [if_pos rfl] at heq
            have HEQ := Lib.hid heq
            clear heq
            go_wp2_with (first
              | (go_at_call 97; refine HH.out.mono ?_; rintro e w1 ⟨rfl, rfl⟩)
              | (go_at_call 149; refine HRM.out.mono ?_; rintro e w2 ⟨rfl, F2, hd2, hm2, hf2⟩))
            go_roundw
            case rel =>
              refine ⟨q + 1, F2, removeD D' nm, by omega, by go_num, ⟨hd2, removeD_ok HP.out.ok nm, HP.out.mod.trans hm2 fun k hk => .inl hk, fun k hk => ?_, HEQ.out⟩⟩
              have := HP.out.mod.size
              rcases hf2 k hk with h | h
              · exact HP.out.sub k h
              · exact .inr (by omega)
            case measure => simp [intOf]; omega
          · have he1 : (E1 == 0) = false := by simp [he]
            have he2 : (E1 != 0) = true := by simp [he]
            rw [if_neg he] at heq
            have HEQ := Lib.hid heq
            clear heq he
            go_wp2_with (first
              | (go_at_call 97; refine HH.out.mono ?_; rintro e w1 ⟨rfl, rfl⟩)
              | (go_at_call 149; refine HRM.out.mono ?_; rintro e w2 ⟨rfl, F2, hd2, hm2, hf2⟩))
            go_ret
            rw [← HEQ.out]
            refine ⟨rfl, F2, hd2, HP.out.mod.trans hm2 fun k hk => .inl hk, fun k hk => ?_⟩
            have := HP.out.mod.size
            rcases hf2 k hk with h | h
            · exact HP.out.sub k h
            · exact .inr (by omega)
    · have heq := HP.out.eq
      rw [List.drop_eq_nil_of_le (by rw [HLL.out]; omega), remL] at heq
      have HEQ := Lib.hid heq
      clear heq
      go_wp2_with fail
      go_ret
      rw [← HEQ.out]
      exact ⟨rfl, E', HP.out.disk, HP.out.mod, HP.out.sub⟩

end Go.Proofs.YtdpjnpjmokncdaaGreatDoor

/- (*sawyerref04.Disk).Rename of "cur~" to "cur". -/
namespace Go.Proofs.YtdpjnpjmokncdaaGreatDoor
open Go.RowKit

theorem delF_len (nm : ByteArray) : ∀ L : List Fl, (delF L nm).length ≤ L.length
  | [] => Nat.le_refl _
  | f :: r => by
    have := delF_len nm r
    rw [delF]
    split <;> simp only [List.length_cons] <;> omega
theorem stepD_same (D : Dk) : (stepD D).files = D.files ∧ (stepD D).n = D.n := by unfold stepD; split <;> exact ⟨rfl, rfl⟩
/-- the plain part. -/
theorem rename_plain {D : Dk} {f : Fl} (ok : DkOk D) (ho : D.off = false) (hf : findF D.files shadN = some f) (hm : moreR D shadN curN ≤ 0) :
    (D.left = 0 → renameD D shadN curN = stepD D ∧ renameE D shadN curN = 5) ∧
    (D.left ≠ 0 → renameE D shadN curN = 0 ∧ (renameD D shadN curN).n = D.n ∧ (renameD D shadN curN).files = putF (delF D.files shadN) { f with name := curN } ∧ (renameD D shadN curN).done = (stepD D).done ∧ (renameD D shadN curN).left = (stepD D).left ∧ (renameD D shadN curN).off = (stepD D).off) := by
  have u1 := ok.u1
  have hD : renameD D shadN curN = if spendE D (moreR D shadN curN) = 0 then { spendD D (moreR D shadN curN) with files := putF (delF D.files shadN) { f with name := curN } } else spendD D (moreR D shadN curN) := by
    unfold renameD; rw [if_pos ⟨shadN_named, curN_named, ho⟩, hf]
  have hE : renameE D shadN curN = spendE D (moreR D shadN curN) := by
    unfold renameE; rw [if_pos ⟨shadN_named, curN_named⟩, if_neg (by rw [ho]; simp), hf]
  refine ⟨fun hz => ?_, fun hz => ?_⟩
  · have e : spendE D (moreR D shadN curN) = 5 := by unfold spendE; rw [if_neg (by omega), if_pos hz]
    refine ⟨?_, by rw [hE, e]⟩
    rw [hD, if_neg (by omega)]
    unfold spendD stepD; rw [if_neg (by omega), if_pos hz, if_pos hz]
  · have e : spendE D (moreR D shadN curN) = 0 := by unfold spendE; rw [if_neg (by omega), if_neg hz]
    refine ⟨by rw [hE, e], ?_⟩
    have h9 : spendD D (moreR D shadN curN) = { D with left := max (D.left - 1) (-1), done := wrap64 (D.done + 1), used := D.used + moreR D shadN curN } := by unfold spendD; rw [if_neg (by omega), if_neg hz]
    have h10 : stepD D = { D with left := max (D.left - 1) (-1), done := wrap64 (D.done + 1) } := by unfold stepD; rw [if_neg hz]
    rw [hD, if_pos e, h9, h10]
    exact ⟨rfl, rfl, rfl, rfl, rfl⟩

set_option maxRecDepth 100000 in
set_option maxHeartbeats 4000000 in
theorem renameR_any (E : Nat → Prop) (r : Nat) (D : Dk) (w : World) (h : RkIs w E r D) (ok : DkOk D) :
    Calls Tryz.prog 115 #[.pointer (some ⟨r, 0, none⟩), .string ⟨#[99, 117, 114, 126]⟩, .string ⟨#[99, 117, 114]⟩] w (RkPost E r (renameD D shadN curN) (.int .i64 (renameE D shadN curN)) w) := by
  have HH := Lib.hid h
  have hfl := files_len ok
  obtain ⟨B, A, n, c, xs, h1, hE, hBE, hEl⟩ := h
  have HA := Lib.hid h1
  have HOK := Lib.hid ok
  have l0 := ok.l0
  have l1 := ok.l1
  have hnc := h1.nc
  have hcm := h1.cm
  have hrl := h1.blk.lt
  have hnA : ∀ W, Calls Tryz.prog 96 #[.string ⟨#[99, 117, 114, 126]⟩] W fun e w' => e = .returned (.bool true) ∧ W = w' := fun W => by
    have := namedR_any shadN W (by decide)
    rw [shadN_named] at this
    exact this
  have hnB : ∀ W, Calls Tryz.prog 96 #[.string ⟨#[99, 117, 114]⟩] W fun e w' => e = .returned (.bool true) ∧ W = w' := fun W => by
    have := namedR_any curN W (by decide)
    rw [curN_named] at this
    exact this
  have HNA := Lib.hid hnA
  have HNB := Lib.hid hnB
  have HR := Lib.hid (rightR_any true B r D A n c xs w h1)
  have hFa := h1.fs.find ok.nd shadN
  have hFb := h1.fs.find ok.nd curN
  have HFA := Lib.hid hFa
  have HFB := Lib.hid hFb
  have HATA : Hid (Calls Tryz.prog 136 #[.pointer (some ⟨r, 0, none⟩), .string ⟨#[99, 117, 114, 126]⟩] w (AtPost (xs.map (·.f)) shadN w)) := at_any shadN B r D A n c xs w h1
  have HATB : Hid (Calls Tryz.prog 136 #[.pointer (some ⟨r, 0, none⟩), .string ⟨#[99, 117, 114]⟩] w (AtPost (xs.map (·.f)) curN w)) := at_any curN B r D A n c xs w h1
  have HFREE := Lib.hid (freeR_any B r D A n c xs w h1 ok.n0 ok.n1 (by rw [ok.us]; have := ok.u1; have := ok.n1; omega))
  rw [ok.us] at HFREE
  have n0 := ok.n0
  have n1 := ok.n1
  have u0 := ok.u0
  have u1 := ok.u1
  obtain ⟨RD, hRD⟩ : ∃ RD, renameD D shadN curN = RD := ⟨_, rfl⟩
  obtain ⟨RE, hRE⟩ : ∃ RE, renameE D shadN curN = RE := ⟨_, rfl⟩
  rw [hRD, hRE]
  have HRD := Lib.hid hRD
  have HRE := Lib.hid hRE
  have c1 : w.cell? ⟨r, 1, none⟩ = some (.slice A n c) := h1.blk.cell 1
  clear hRD hRE hFa hFb hnA hnB ok h1
  by_cases hoff : D.off = true
  · have HRV : Hid (rightE true D = 5) := by show _ = _; unfold rightE; rw [hoff]; simp
    have HV : Hid (RD = D ∧ RE = 5) := by
      show _ ∧ _
      rw [← HRD.out, ← HRE.out]
      unfold renameD renameE
      rw [if_neg (by rw [hoff]; simp), if_pos ⟨shadN_named, curN_named⟩, if_pos hoff]
      exact ⟨rfl, rfl⟩
    clear hoff
    go_enter Tryz.func115, Tryz.ntmps115
    go_wp2_with (first
      | (go_at_call 96; (with_reducible refine (HNA.out _).mono ?_); rintro e w1 ⟨rfl, rfl⟩)
      | (go_at_call 96; (with_reducible refine (HNB.out _).mono ?_); rintro e w1 ⟨rfl, rfl⟩)
      | (go_at_call 153; refine HR.out.mono ?_; rw [HRV.out]; rintro e w1 ⟨rfl, rfl⟩))
    go_ret
    exact ⟨by rw [HV.out.2]; rfl, E, by rw [HV.out.1]; exact HH.out, Mod.refl _ _, fun k hk => .inl hk⟩
  · have hoff' : D.off = false := by simpa using hoff
    have HOFF := Lib.hid hoff'
    have HRV : Hid (rightE true D = 0) := by show _ = _; unfold rightE; rw [hoff']; simp
    clear hoff hoff'
    go_enter Tryz.func115, Tryz.ntmps115
    go_wp2_with (first
      | (go_at_call 96; (with_reducible refine (HNA.out _).mono ?_); rintro e w1 ⟨rfl, rfl⟩)
      | (go_at_call 96; (with_reducible refine (HNB.out _).mono ?_); rintro e w1 ⟨rfl, rfl⟩)
      | (go_at_call 153; refine HR.out.mono ?_; rw [HRV.out]; rintro e w1 ⟨rfl, rfl⟩))
    refine HATA.out.mono ?_
    rintro e w1 ⟨rfl, ⟨hf, rfl⟩ | ⟨i, f, hi, hf, hnm, rfl⟩⟩
    · have HV : Hid (RD = D ∧ RE = 3) := by
        show _ ∧ _
        rw [HFA.out] at hf
        rw [← HRD.out, ← HRE.out]
        unfold renameD renameE
        rw [if_pos ⟨shadN_named, curN_named, HOFF.out⟩, if_pos ⟨shadN_named, curN_named⟩, if_neg (by rw [HOFF.out]; simp), hf]
        exact ⟨rfl, rfl⟩
      clear hf
      go_wp2_with fail
      go_ret
      exact ⟨by rw [HV.out.2]; rfl, E, by rw [HV.out.1]; exact HH.out, Mod.refl _ _, fun k hk => .inl hk⟩
    · have hfD : findF D.files shadN = some f := by rw [← HFA.out]; exact hf
      have HFD := Lib.hid hfD
      have hin : i < n := by
        have h1 := (List.getElem?_eq_some_iff.1 hi).1
        rw [List.length_map, HA.out.len] at h1
        exact h1
      have HI := Lib.hid hi
      have HNM := Lib.hid hnm
      have i1 : (0 : Int) ≤ (i : Int) := by omega
      have i2 : (i : Int) < (n : Int) := by omega
      clear hf hfD hi hnm
      go_wp2_with fail
      refine HATB.out.mono ?_
      rintro e w1 ⟨rfl, ⟨hg, rfl⟩ | ⟨k, g, hk, hg, hgn, rfl⟩⟩
      · have hmo : moreR D shadN curN = -1 := by
          rw [HFB.out] at hg
          unfold moreR
          rw [hg]
          rfl
        have HPL := Lib.hid (rename_plain HOK.out HOFF.out HFD.out (by omega))
        rw [HRD.out, HRE.out] at HPL
        have hdf : decide (D.n - D.used < -1) = false := decide_eq_false (by omega)
        clear hg hmo
        go_wp2_with fail
        refine HFREE.out.mono ?_
        rintro e w1 ⟨rfl, q1, rfl⟩
        by_cases hz : D.left = 0
        · have HV := Lib.hid (HPL.out.1 hz)
          have hzb : decide (D.left ≠ 0) = false := by simp [hz]
          have HZ := Lib.hid hzb
          clear hzb hz
          go_wp2_with fail
          refine (stepR_any B r D _ n c xs _ (HA.out.mod0 ((Mod.refl Non w).drewN q1)) l0 l1).mono ?_
          rw [HZ.out]
          rintro e w2 ⟨rfl, hA2, hm2⟩
          have HA2 := Lib.hid hA2
          have HM2 := Lib.hid (((Mod.refl Non w).drewN q1).non.trans hm2 (S := fun k => k = r) fun _ h => .inl h)
          clear hA2 hm2
          go_wp2_with fail
          go_ret
          exact ⟨by rw [HV.out.2]; rfl, E, by rw [HV.out.1]; exact RkIs.of_at HA2.out hE hBE hEl HM2.out, HM2.out, fun k hk => .inl hk⟩
        · have HV := Lib.hid (HPL.out.2 hz)
          have hzb : decide (D.left ≠ 0) = true := by simp [hz]
          have HZ := Lib.hid hzb
          have HSF := Lib.hid (stepD_same D)
          clear hzb hz
          go_wp2_with fail
          refine (stepR_any B r D _ n c xs _ (HA.out.mod0 ((Mod.refl Non w).drewN q1)) l0 l1).mono ?_
          rw [HZ.out]
          rintro e w2 ⟨rfl, hA2, hm2⟩
          have HA2 := Lib.hid hA2
          have HM2 := Lib.hid (((Mod.refl Non w).drewN q1).non.trans hm2 (S := fun k => k = r) fun _ h => .inl h)
          have HSD := Lib.hid (RkIs.of_at hA2 hE hBE hEl HM2.out)
          have d1 : w2.cell? ⟨r, 1, none⟩ = some (.slice _ n c) := hA2.blk.cell 1
          obtain ⟨bb, oo, x, hAe, hxi, e0, e1, e2⟩ := hA2.row.file hin
          have hxf : x.f = f := by
            have := HI.out
            rw [List.getElem?_map, hxi] at this
            exact Option.some.inj this
          obtain ⟨hb1, hb2, hb3, hb4⟩ := hA2.byt x (List.mem_of_getElem? hxi)
          obtain ⟨⟨xn, xs', xb⟩, xA, xc⟩ := x
          simp only at hxf e0 e1 e2 hb1 hb2 hb3 hb4
          have hrl2 := hA2.blk.lt
          have HB1 := Lib.hid hb1
          have HB4 := Lib.hid hb4
          have HXF := Lib.hid hxf
          obtain ⟨bn, hbn⟩ : ∃ bn, xb.length = bn := ⟨_, rfl⟩
          have HBN := Lib.hid hbn
          rw [hbn] at e2
          obtain ⟨w3, hw3⟩ : ∃ w3, w2.alloc (.cells #[.string xn, .int .i64 (xs' : Int), .slice xA bn xc] 67) = w3 := ⟨_, rfl⟩
          have hm3 : Mod Non w2 w3 := by rw [← hw3]; exact (Mod.refl _ _).alloc _
          have hbx3 : Blk w3 w2.heap.size 67 #[.string xn, .int .i64 (xs' : Int), .slice xA bn xc] := by rw [← hw3]; exact Blk.new _ _ _
          have hs3 : w3.heap.size = w2.heap.size + 1 := by rw [← hw3, World.size_alloc]
          have HW3 := Lib.hid hw3
          have HM3 := Lib.hid hm3
          have HBX3 := Lib.hid hbx3
          have HS3 := Lib.hid hs3
          subst hAe
          have hdr : Calls Tryz.prog 155 #[.pointer (some ⟨r, 0, none⟩), .string ⟨#[99, 117, 114, 126]⟩] w3 (RkPost E r { stepD D with files := delF (stepD D).files shadN } (.tuple #[]) w3) :=
            dropR_any shadN E r (stepD D) w3 (HSD.out.mod0 hm3) (by rw [HSF.out.1]; exact HOK.out.nd) (by rw [HSF.out.1]; omega)
          have HDR := Lib.hid hdr
          have i3 := World.block_lt_of_cell? w2 _ e0
          clear hA2 hm2 hxi hb1 hb4 hxf hbn hw3 hm3 hbx3 hs3 hdr
          go_wp2_with fail
          rw [HW3.out]
          refine HDR.out.mono ?_
          rintro e w4 ⟨rfl, F4, hd4, hm4, hf4⟩
          have hbx4 := HBX3.out.mod hm4 (by omega)
          have k0 : w4.cell? ⟨w2.heap.size, 0, none⟩ = some (.string xn) := hbx4.cell 0
          have kf := hbx4.frozen 0
          have hset : Mod (fun k => k = w2.heap.size) w4 (w4.setCell ⟨w2.heap.size, 0, none⟩ (.string ⟨#[99, 117, 114]⟩)) := (Mod.refl _ _).set1 0 _
          have hbx5 : Blk (w4.setCell ⟨w2.heap.size, 0, none⟩ (.string ⟨#[99, 117, 114]⟩)) w2.heap.size 67 #[.string ⟨#[99, 117, 114]⟩, .int .i64 (xs' : Int), .slice xA bn xc] := hbx4.set_ 0 (.string ⟨#[99, 117, 114]⟩)
          have hF4 : ∀ k, F4 k → k ≠ w2.heap.size := fun k hk e => by
            have h3 := HS3.out
            have h2 := HM2.out.size
            rcases hf4 k hk with h | h
            · have := hEl k h
              omega
            · omega
          have hd5 := hd4.mod hset fun k hk => hF4 k hk
          have hs4 := hm4.size
          have hxb5 : Rd (w4.setCell ⟨w2.heap.size, 0, none⟩ (.string ⟨#[99, 117, 114]⟩)) xA xb.length (by8 xb) := ((HB1.out.mod0 HM3.out).mod hm4 fun _ g hg e => by
              have := HB4.out g hg
              rw [e] at this
              exact HA2.out.rB this).mod hset fun _ g hg e => by
              have h1 := hEl g (hBE g (HB4.out g hg))
              have h2 := HM2.out.size
              omega
          have hpt : Calls Tryz.prog 98 #[.pointer (some ⟨r, 0, none⟩), .agg #[.string ⟨#[99, 117, 114]⟩, .int .i64 (xs' : Int), .slice xA bn xc]] (w4.setCell ⟨w2.heap.size, 0, none⟩ (.string ⟨#[99, 117, 114]⟩)) fun e w' =>
              e = .returned (.tuple #[]) ∧ ∃ E', RkIs w' E' r { stepD D with files := putF (delF (stepD D).files shadN) ⟨curN, xs', xb⟩ } ∧ Mod (fun k => k = r) (w4.setCell ⟨w2.heap.size, 0, none⟩ (.string ⟨#[99, 117, 114]⟩)) w' ∧ ∀ k, E' k → F4 k ∨ blkOf xA = some k ∨ (w4.setCell ⟨w2.heap.size, 0, none⟩ (.string ⟨#[99, 117, 114]⟩)).heap.size ≤ k := by
            have := put_any ⟨⟨curN, xs', xb⟩, xA, xc⟩ F4 r _ _ hd5 (by simp only; rw [HSF.out.1]; exact nodup_del HOK.out.nd) (by simp only; rw [HSF.out.1]; have := delF_len shadN D.files; omega) hxb5 hb2 hb3 (fun g hg => by
              have h0 := HB4.out g hg
              have h1 := hEl g (hBE g h0)
              have h2 := HM2.out.size
              have h3 := HS3.out
              refine ⟨fun e => HA2.out.rB (e ▸ h0), ?_⟩
              rw [World.size_setCell]
              omega)
            simp only at this
            rw [HBN.out] at this
            exact this
          have HPT := Lib.hid hpt
          have HF4 := Lib.hid hf4
          have HM4 := Lib.hid hm4
          have HST := Lib.hid hset
          have q0 := hbx5.cell 0
          have q2 := hbx5.cell 1
          have q3 := hbx5.cell 2
          clear hbx4 hbx5 hd4 hd5 hm4 hf4 hxb5 hpt hset
          go_wp2_with fail
          refine HPT.out.mono ?_
          rintro e w6 ⟨rfl, F6, hd6, hm6, hf6⟩
          have HD6 := Lib.hid hd6
          have HM6 := Lib.hid hm6
          have HF6 := Lib.hid hf6
          clear hd6 hm6 hf6
          go_wp2_with fail
          go_ret
          refine ⟨by rw [HV.out.1]; rfl, F6, ?_, ?_, fun k hk => ?_⟩
          · refine HD6.out.like ?_ ?_ ?_ ?_ ?_
            · rw [HV.out.2.1, HSF.out.2]
            · rw [HV.out.2.2.1, HSF.out.1, ← HXF.out]
            · rw [HV.out.2.2.2.1]
            · rw [HV.out.2.2.2.2.1]
            · rw [HV.out.2.2.2.2.2]
          · exact (((HM2.out.trans0 HM3.out).trans HM4.out fun k hk => .inl hk).trans HST.out fun k hk => .inr (by have := HM2.out.size; omega)).trans HM6.out fun k hk => .inl hk
          · have s2 := HM2.out.size
            have s3 := HS3.out
            rcases HF6.out k hk with h | h | h
            · rcases HF4.out k h with h | h
              · exact .inl h
              · exact .inr (by omega)
            · exact .inl (hBE k (HB4.out k h))
            · rw [World.size_setCell] at h
              exact .inr (by omega)
      · rw [HFB.out] at hg
        have hkn : k < n := by
          have h1 := (List.getElem?_eq_some_iff.1 hk).1
          rw [List.length_map, HA.out.len] at h1
          exact h1
        have hki : k ≠ i := fun e => by
          subst e
          have h1 := HI.out
          rw [hk] at h1
          cases h1
          rw [HNM.out] at hgn
          revert hgn
          decide +kernel
        obtain ⟨bg, og, y, hAe, hyi, y0, y1, y2⟩ := HA.out.row.file hkn
        have hyf : y.f = g := by
          rw [List.getElem?_map, hyi] at hk
          exact Option.some.inj hk
        obtain ⟨⟨yn, ys, yb⟩, yA, yc⟩ := y
        simp only at hyf y0 y1 y2
        obtain ⟨gl, hgl⟩ : ∃ gl, yb.length = gl := ⟨_, rfl⟩
        rw [hgl] at y2
        have hgl2 : g.bytes.length = gl := by rw [← hgl, ← hyf]
        have hcost := (find_len HOK.out hg).1
        have hmo : moreR D shadN curN = -20 - (gl : Int) := by
          unfold moreR
          rw [hg]
          simp only
          rw [if_neg (by decide +kernel), costF, hgl2, hgn]
          show ((3 : Nat) : Int) - ((4 : Nat) : Int) - _ = _
          show ((3 : Nat) : Int) - ((4 : Nat) : Int) - (16 + ((3 : Nat) : Int) + (gl : Int)) = _
          omega
        have HPL := Lib.hid (rename_plain HOK.out HOFF.out HFD.out (by omega))
        rw [HRD.out, HRE.out] at HPL
        have hglb : gl ≤ 1099511627776 := by omega
        have hdf : decide (D.n - D.used < -20 - (gl : Int)) = false := decide_eq_false (by omega)
        have j1 : (0 : Int) ≤ (k : Int) := by omega
        have j2 : (k : Int) < (n : Int) := by omega
        have j3 : ((k : Int) == (i : Int)) = false := by simp; omega
        have j4 : ((k : Int) != (i : Int)) = true := by simp; omega
        subst hAe
        clear hg hk hgn hyi hyf hgl hgl2 hmo hcost
        go_wp2_with fail
        refine HFREE.out.mono ?_
        rintro e w1 ⟨rfl, q1, rfl⟩
        by_cases hz : D.left = 0
        · have HV := Lib.hid (HPL.out.1 hz)
          have hzb : decide (D.left ≠ 0) = false := by simp [hz]
          have HZ := Lib.hid hzb
          clear hzb hz
          go_wp2_with fail
          refine (stepR_any B r D _ n c xs _ (HA.out.mod0 ((Mod.refl Non w).drewN q1)) l0 l1).mono ?_
          rw [HZ.out]
          rintro e w2 ⟨rfl, hA2, hm2⟩
          have HA2 := Lib.hid hA2
          have HM2 := Lib.hid (((Mod.refl Non w).drewN q1).non.trans hm2 (S := fun k => k = r) fun _ h => .inl h)
          clear hA2 hm2
          go_wp2_with fail
          go_ret
          exact ⟨by rw [HV.out.2]; rfl, E, by rw [HV.out.1]; exact RkIs.of_at HA2.out hE hBE hEl HM2.out, HM2.out, fun k hk => .inl hk⟩
        · have HV := Lib.hid (HPL.out.2 hz)
          have hzb : decide (D.left ≠ 0) = true := by simp [hz]
          have HZ := Lib.hid hzb
          have HSF := Lib.hid (stepD_same D)
          clear hzb hz
          go_wp2_with fail
          refine (stepR_any B r D _ n c xs _ (HA.out.mod0 ((Mod.refl Non w).drewN q1)) l0 l1).mono ?_
          rw [HZ.out]
          rintro e w2 ⟨rfl, hA2, hm2⟩
          have HA2 := Lib.hid hA2
          have HM2 := Lib.hid (((Mod.refl Non w).drewN q1).non.trans hm2 (S := fun k => k = r) fun _ h => .inl h)
          have HSD := Lib.hid (RkIs.of_at hA2 hE hBE hEl HM2.out)
          have d1 : w2.cell? ⟨r, 1, none⟩ = some (.slice _ n c) := hA2.blk.cell 1
          obtain ⟨bb, oo, x, hAe, hxi, e0, e1, e2⟩ := hA2.row.file hin
          have hxf : x.f = f := by
            have := HI.out
            rw [List.getElem?_map, hxi] at this
            exact Option.some.inj this
          obtain ⟨hb1, hb2, hb3, hb4⟩ := hA2.byt x (List.mem_of_getElem? hxi)
          obtain ⟨⟨xn, xs', xb⟩, xA, xc⟩ := x
          simp only at hxf e0 e1 e2 hb1 hb2 hb3 hb4
          have hrl2 := hA2.blk.lt
          have HB1 := Lib.hid hb1
          have HB4 := Lib.hid hb4
          have HXF := Lib.hid hxf
          obtain ⟨bn, hbn⟩ : ∃ bn, xb.length = bn := ⟨_, rfl⟩
          have HBN := Lib.hid hbn
          rw [hbn] at e2
          obtain ⟨w3, hw3⟩ : ∃ w3, w2.alloc (.cells #[.string xn, .int .i64 (xs' : Int), .slice xA bn xc] 67) = w3 := ⟨_, rfl⟩
          have hm3 : Mod Non w2 w3 := by rw [← hw3]; exact (Mod.refl _ _).alloc _
          have hbx3 : Blk w3 w2.heap.size 67 #[.string xn, .int .i64 (xs' : Int), .slice xA bn xc] := by rw [← hw3]; exact Blk.new _ _ _
          have hs3 : w3.heap.size = w2.heap.size + 1 := by rw [← hw3, World.size_alloc]
          have HW3 := Lib.hid hw3
          have HM3 := Lib.hid hm3
          have HBX3 := Lib.hid hbx3
          have HS3 := Lib.hid hs3
          cases hAe
          have hdr : Calls Tryz.prog 155 #[.pointer (some ⟨r, 0, none⟩), .string ⟨#[99, 117, 114, 126]⟩] w3 (RkPost E r { stepD D with files := delF (stepD D).files shadN } (.tuple #[]) w3) :=
            dropR_any shadN E r (stepD D) w3 (HSD.out.mod0 hm3) (by rw [HSF.out.1]; exact HOK.out.nd) (by rw [HSF.out.1]; omega)
          have HDR := Lib.hid hdr
          have i3 := World.block_lt_of_cell? w2 _ e0
          clear hA2 hm2 hxi hb1 hb4 hxf hbn hw3 hm3 hbx3 hs3 hdr
          go_wp2_with fail
          rw [HW3.out]
          refine HDR.out.mono ?_
          rintro e w4 ⟨rfl, F4, hd4, hm4, hf4⟩
          have hbx4 := HBX3.out.mod hm4 (by omega)
          have k0 : w4.cell? ⟨w2.heap.size, 0, none⟩ = some (.string xn) := hbx4.cell 0
          have kf := hbx4.frozen 0
          have hset : Mod (fun k => k = w2.heap.size) w4 (w4.setCell ⟨w2.heap.size, 0, none⟩ (.string ⟨#[99, 117, 114]⟩)) := (Mod.refl _ _).set1 0 _
          have hbx5 : Blk (w4.setCell ⟨w2.heap.size, 0, none⟩ (.string ⟨#[99, 117, 114]⟩)) w2.heap.size 67 #[.string ⟨#[99, 117, 114]⟩, .int .i64 (xs' : Int), .slice xA bn xc] := hbx4.set_ 0 (.string ⟨#[99, 117, 114]⟩)
          have hF4 : ∀ k, F4 k → k ≠ w2.heap.size := fun k hk e => by
            have h3 := HS3.out
            have h2 := HM2.out.size
            rcases hf4 k hk with h | h
            · have := hEl k h
              omega
            · omega
          have hd5 := hd4.mod hset fun k hk => hF4 k hk
          have hs4 := hm4.size
          have hxb5 : Rd (w4.setCell ⟨w2.heap.size, 0, none⟩ (.string ⟨#[99, 117, 114]⟩)) xA xb.length (by8 xb) := ((HB1.out.mod0 HM3.out).mod hm4 fun _ g hg e => by
              have := HB4.out g hg
              rw [e] at this
              exact HA2.out.rB this).mod hset fun _ g hg e => by
              have h1 := hEl g (hBE g (HB4.out g hg))
              have h2 := HM2.out.size
              omega
          have hpt : Calls Tryz.prog 98 #[.pointer (some ⟨r, 0, none⟩), .agg #[.string ⟨#[99, 117, 114]⟩, .int .i64 (xs' : Int), .slice xA bn xc]] (w4.setCell ⟨w2.heap.size, 0, none⟩ (.string ⟨#[99, 117, 114]⟩)) fun e w' =>
              e = .returned (.tuple #[]) ∧ ∃ E', RkIs w' E' r { stepD D with files := putF (delF (stepD D).files shadN) ⟨curN, xs', xb⟩ } ∧ Mod (fun k => k = r) (w4.setCell ⟨w2.heap.size, 0, none⟩ (.string ⟨#[99, 117, 114]⟩)) w' ∧ ∀ k, E' k → F4 k ∨ blkOf xA = some k ∨ (w4.setCell ⟨w2.heap.size, 0, none⟩ (.string ⟨#[99, 117, 114]⟩)).heap.size ≤ k := by
            have := put_any ⟨⟨curN, xs', xb⟩, xA, xc⟩ F4 r _ _ hd5 (by simp only; rw [HSF.out.1]; exact nodup_del HOK.out.nd) (by simp only; rw [HSF.out.1]; have := delF_len shadN D.files; omega) hxb5 hb2 hb3 (fun g hg => by
              have h0 := HB4.out g hg
              have h1 := hEl g (hBE g h0)
              have h2 := HM2.out.size
              have h3 := HS3.out
              refine ⟨fun e => HA2.out.rB (e ▸ h0), ?_⟩
              rw [World.size_setCell]
              omega)
            simp only at this
            rw [HBN.out] at this
            exact this
          have HPT := Lib.hid hpt
          have HF4 := Lib.hid hf4
          have HM4 := Lib.hid hm4
          have HST := Lib.hid hset
          have q0 := hbx5.cell 0
          have q2 := hbx5.cell 1
          have q3 := hbx5.cell 2
          clear hbx4 hbx5 hd4 hd5 hm4 hf4 hxb5 hpt hset
          go_wp2_with fail
          refine HPT.out.mono ?_
          rintro e w6 ⟨rfl, F6, hd6, hm6, hf6⟩
          have HD6 := Lib.hid hd6
          have HM6 := Lib.hid hm6
          have HF6 := Lib.hid hf6
          clear hd6 hm6 hf6
          go_wp2_with fail
          go_ret
          refine ⟨by rw [HV.out.1]; rfl, F6, ?_, ?_, fun k hk => ?_⟩
          · refine HD6.out.like ?_ ?_ ?_ ?_ ?_
            · rw [HV.out.2.1, HSF.out.2]
            · rw [HV.out.2.2.1, HSF.out.1, ← HXF.out]
            · rw [HV.out.2.2.2.1]
            · rw [HV.out.2.2.2.2.1]
            · rw [HV.out.2.2.2.2.2]
          · exact (((HM2.out.trans0 HM3.out).trans HM4.out fun k hk => .inl hk).trans HST.out fun k hk => .inr (by have := HM2.out.size; omega)).trans HM6.out fun k hk => .inl hk
          · have s2 := HM2.out.size
            have s3 := HS3.out
            rcases HF6.out k hk with h | h | h
            · rcases HF4.out k h with h | h
              · exact .inl h
              · exact .inr (by omega)
            · exact .inl (hBE k (HB4.out k h))
            · rw [World.size_setCell] at h
              exact .inr (by omega)

end Go.Proofs.YtdpjnpjmokncdaaGreatDoor
