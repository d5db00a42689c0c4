/- sawyerref02.PutText, sawyerref10.Encode. -/
import Derived.Test.YtdpjnpjmokncdaaGreatDoorB32
import Derived.Test.YtdpjnpjmokncdaaGreatDoorB29
import Derived.Test.YtdpjnpjmokncdaaGreatDoorB35
import Derived.Test.YtdpjnpjmokncdaaGreatDoorB31
namespace Go.Proofs.YtdpjnpjmokncdaaGreatDoor
open Go.RowKit

theorem putNumR_rd (A : Option Addr) (n c : Nat) (l : List UInt8) (x : Int) (w : World) (h : Rd w A n (by8 l)) (hn : n ≤ 140737488351232) :
    Calls Tryz.prog 140 #[.slice A n c, .int .i64 x] w fun e w' => ∃ A' n' c', e = .returned (.slice A' n' c') ∧ n' = (l ++ nB x).length ∧ n' ≤ n + 9 ∧ Rd w' A' n' (by8 (l ++ nB x)) ∧ n' ≤ c' ∧ c' ≤ 9223372036854775807 ∧ Mod Non w w' := by
  have hll : l.length = n := by simpa using h.1
  refine (putNumR_any A n c l x w h hn).mono ?_
  rintro e w' ⟨A', c', rfl, ho, hb⟩
  obtain ⟨A1, c1, he, h1, h2⟩ := own_slice ho
  cases he
  have hmx : maxLen = 9223372036854775807 := rfl
  have h9 := nB_len x
  have : numB (clampN x) = nB x := rfl
  rw [this] at ho h1 ⊢
  exact ⟨A', _, c', rfl, by rw [List.length_append, hll], by omega, Rd.of_own ho, h1, by omega, Mod.of_below hb⟩

set_option maxRecDepth 100000 in
set_option maxHeartbeats 400000 in
theorem putTextR_any (A : Option Addr) (n c : Nat) (l : List UInt8) (s : ByteArray) (w : World) (h : Rd w A n (by8 l)) (hn : n + s.size ≤ 140737488351232) :
    Calls Tryz.prog 184 #[.slice A n c, .string s] w fun e w' => ∃ A' n' c', e = .returned (.slice A' n' c') ∧ n' = (l ++ textB s.data.toList).length ∧ n' ≤ n + 9 + s.size ∧ Rd w' A' n' (by8 (l ++ textB s.data.toList)) ∧ n' ≤ c' ∧ c' ≤ 9223372036854775807 ∧ Mod Non w w' := by
  have hll : l.length = n := by simpa using h.1
  have hsz : s.data.toList.length = s.size := Array.length_toList
  have h9 := nB_len (s.size : Int)
  obtain ⟨R, hR⟩ : ∃ R, l ++ textB s.data.toList = R := ⟨_, rfl⟩
  have hRe : (l ++ nB (s.size : Int)) ++ s.data.toList = R := by rw [← hR]; unfold textB; rw [hsz, List.append_assoc]
  have hRl : n + (nB (s.size : Int)).length + s.size = R.length := by rw [← hRe]; simp [hll]; omega
  rw [hR]
  have hpn := putNumR_any A n c l (s.size : Int) w h (by omega)
  obtain ⟨L, hL⟩ : ∃ L, nB (s.size : Int) = L := ⟨_, rfl⟩
  have hL2 : numB (clampN (s.size : Int)) = L := hL
  rw [hL2] at hpn
  rw [hL] at h9 hRe hRl
  have HPN := Lib.hid hpn
  have HRE := Lib.hid hRe
  have HRL := Lib.hid hRl
  have hmx : maxLen = 9223372036854775807 := rfl
  obtain ⟨i, hi, hz, h1, h2⟩ := bt.info
  clear hpn hL hL2 hR hRe hRl hsz h hll
  go_enter Tryz.func184, Tryz.ntmps184
  go_wp2_with (first
    | (go_at_call 140; refine HPN.out.mono ?_; rintro e w1 ⟨A1, c1, rfl, ho1, hb1⟩)
    | (at_builtin; refine Lib.wpList_append_own_string _ rfl (.tmp 8) (.tmp 9) 44 9 rfl w.heap.size 5 i Tryz.underlying44 Tryz.underlying9 hi hz h1 h2 (.slice A1 (n + L.length) c1) (n + L.length) (by8 (l ++ L)) rfl ho1 s rfl (by omega) (by omega) hb1.size ?_; intro v' w' hown' hg' hnil'))
  obtain ⟨A', c', rfl, hc1, hc2⟩ := own_slice hown'
  go_ret
  rw [strCells_by8, ← by8_append, HRE.out] at hown'
  exact ⟨A', _, c', rfl, HRL.out, by omega, Rd.of_own hown', hc1, by omega, Mod.of_below (hb1.grown hg' hb1.size (fun j hj => (ho1.lt j hj).1))⟩

/-- between two rounds of the reference's Encode. -/
structure EoM (w : World) (x : Vw) (n k : Nat) (bx : Nat) (A : Option Addr) (q : Nat) (dd : List UInt8) (wr : World) : Prop where
  mod : Mod Non w wr
  box : Blk wr bx 30 #[.int .i64 x.gen, .int .i64 x.next, .int .i64 x.log, .int .i64 x.seq, .slice x.A n x.c]
  eq : dd = nBs [x.gen, x.next, x.log, x.seq, (n : Int)] ++ encMs ((x.ms.take k).map (·.m))
  rd : Rd wr A q (by8 dd)

set_option maxRecDepth 100000 in
set_option maxHeartbeats 8000000 in
theorem encodeR_any (x : Vw) (w : World) (h : VwOk w x) :
    Calls Tryz.prog 143 #[x.val] w (EnPost x.v w) := by
  obtain ⟨gen, next, log, seq, A, c, ms⟩ := x
  obtain ⟨n, hn⟩ : ∃ n, ms.length = n := ⟨_, rfl⟩
  have hX : VwOk w ⟨gen, next, log, seq, A, c, ms⟩ := h
  obtain ⟨hrow, hnc, hcm, hok⟩ := h
  simp only at hrow hnc hcm hok
  rw [hn] at hrow hnc
  obtain ⟨V, hV⟩ : ∃ V, Vw.v ⟨gen, next, log, seq, A, c, ms⟩ = V := ⟨_, rfl⟩
  have hck : ∀ W, Mod Non w W → Calls Tryz.prog 109 #[.agg #[.int .i64 gen, .int .i64 next, .int .i64 log, .int .i64 seq, .slice A n c]] W fun e w' => e = .returned (.int .i64 (if checkV V = true then 0 else 1)) ∧ Mod Non W w' := fun W hW => by
    have := checkR_any ⟨gen, next, log, seq, A, c, ms⟩ W (hX.mod0 hW)
    unfold Vw.val at this
    simp only at this
    rw [hn, hV] at this
    exact this
  rw [hV]
  unfold Vw.val
  simp only
  rw [hn]
  have HCK := Lib.hid hck
  have HN := Lib.hid hn
  have HV := Lib.hid hV
  have HROW := Lib.hid hrow
  have HOK := Lib.hid hok
  have hvt : V.tables = ms.map (·.m) := by rw [← hV]; rfl
  have HVT := Lib.hid hvt
  have hbox : Blk (w.alloc (.cells #[.int .i64 gen, .int .i64 next, .int .i64 log, .int .i64 seq, .slice A n c] 30)) w.heap.size 30 #[.int .i64 gen, .int .i64 next, .int .i64 log, .int .i64 seq, .slice A n c] := Blk.new _ _ _
  have HMA := Lib.hid ((Mod.refl Non w).alloc (.cells #[.int .i64 gen, .int .i64 next, .int .i64 log, .int .i64 seq, .slice A n c] 30))
  have HBX := Lib.hid hbox
  clear hck hn hV hrow hok hvt hbox hX
  go_enter Tryz.func143, Tryz.ntmps143
  go_wp2_with fail
  refine (HCK.out _ HMA.out).mono ?_
  by_cases hcv : checkV V = true
  · rw [if_pos hcv]
    obtain ⟨hlen, hl4⟩ := encV_len hcv
    have hmr : ∀ m ∈ V.tables, mtRight m = true := by
      unfold checkV at hcv
      rw [Bool.and_eq_true] at hcv
      exact tabsAll_right hcv.2
    have HCV := Lib.hid hcv
    have HMR := Lib.hid hmr
    have hn4 : n ≤ 4096 := by
      have h1 := congrArg List.length HVT.out
      simp only [List.length_map] at h1
      have h2 := HN.out
      omega
    rintro e w1 ⟨rfl, hm1⟩
    have HM1 := Lib.hid (HMA.out.trans0 hm1)
    have HBX1 := Lib.hid (HBX.out.mod hm1 fun h => h)
    have HKE : Hid (∀ W, Mod Non w1 W → W.cell? ⟨w.heap.size, 0, none⟩ = some (.int .i64 gen) ∧ W.cell? ⟨w.heap.size, 1, none⟩ = some (.int .i64 next)) :=
      fun W hW => ⟨(HBX1.out.mod hW fun h => h).cell 0, (HBX1.out.mod hW fun h => h).cell 1⟩
    have HD1 := Lib.hid ((Mod.refl Non w1).drew)
    have hke := HKE.out _ HD1.out
    clear hcv hmr hm1
    go_wp2_with fail
    go_region_held3 (fun w' => w'.cell? ⟨w.heap.size, 0, none⟩ = some (.int .i64 gen) ∧ w'.cell? ⟨w.heap.size, 1, none⟩ = some (.int .i64 next))
      (first | exact hke | assumption | go_keep)
      (first
        | (go_at_call 140
           (with_reducible refine (putNumR_rd none 0 0 [] gen _ (Rd.nil _ _) (by omega)).mono ?_)
           rintro e w2 ⟨A2, n2, c2, rfl, hn2, hb2, hr2, hnc2, hcm2, hm2⟩
           have HM2 := Lib.hid (HD1.out.trans0 hm2)
           have hke := HKE.out w2 HM2.out
           have HR2 := Lib.hid hr2
           have HN2 := Lib.hid hn2
           clear hn2 hr2 hm2)
        | (go_at_call 140
           (with_reducible refine (putNumR_rd A2 n2 c2 _ next _ (HR2.out) (by omega)).mono ?_)
           rintro e w3 ⟨A3, n3, c3, rfl, hn3, hb3, hr3, hnc3, hcm3, hm3⟩
           have HM3 := Lib.hid (HM2.out.trans0 hm3)
           have hke := HKE.out w3 HM3.out
           have HR3 := Lib.hid hr3
           have HN3 := Lib.hid hn3
           clear hn3 hr3 hm3)
        | fail)
    all_goals
      have HMM3 := Lib.hid (HM1.out.trans0 HM3.out)
      have HBX3 := Lib.hid (HBX1.out.mod HM3.out fun h => h)
      clear hke HKE
      have HKE : Hid (∀ W, Mod Non w3 W → W.cell? ⟨w.heap.size, 2, none⟩ = some (.int .i64 log) ∧ W.cell? ⟨w.heap.size, 3, none⟩ = some (.int .i64 seq)) :=
        fun W hW => ⟨(HBX3.out.mod hW fun h => h).cell 2, (HBX3.out.mod hW fun h => h).cell 3⟩
      have HD3 := Lib.hid ((Mod.refl Non w3).drew)
      have hke := HKE.out _ HD3.out
      go_wp2_with fail
      go_region_held3 (fun w' => w'.cell? ⟨w.heap.size, 2, none⟩ = some (.int .i64 log) ∧ w'.cell? ⟨w.heap.size, 3, none⟩ = some (.int .i64 seq))
        (first | exact hke | assumption | go_keep)
        (first
          | (go_at_call 140
             (with_reducible refine (putNumR_rd A3 n3 c3 _ log _ (HR3.out.mod0 HD3.out) (by omega)).mono ?_)
             rintro e w4 ⟨A4, n4, c4, rfl, hn4, hb4, hr4, hnc4, hcm4, hm4⟩
             have HM4 := Lib.hid (HD3.out.trans0 hm4)
             have hke := HKE.out w4 HM4.out
             have HR4 := Lib.hid hr4
             have HN4 := Lib.hid hn4
             clear hn4 hr4 hm4)
          | (go_at_call 140
             (with_reducible refine (putNumR_rd A4 n4 c4 _ seq _ (HR4.out) (by omega)).mono ?_)
             rintro e w5 ⟨A5, n5, c5, rfl, hn5, hb5, hr5, hnc5, hcm5, hm5⟩
             have HM5 := Lib.hid (HM4.out.trans0 hm5)
             have hke := HKE.out w5 HM5.out
             have HR5 := Lib.hid hr5
             have HN5 := Lib.hid hn5
             clear hn5 hr5 hm5)
          | fail)
    all_goals
      have HMM5 := Lib.hid (HMM3.out.trans0 HM5.out)
      have HBX5 := Lib.hid (HBX3.out.mod HM5.out fun h => h)
      clear hke HKE
      have c4 : w5.cell? ⟨w.heap.size, 4, none⟩ = some (.slice A n c) := HBX5.out.cell 4
      go_wp2_with fail
      refine (putNumR_rd A5 n5 c5 _ (n : Int) _ HR5.out (by omega)).mono ?_
      rintro e w6 ⟨A6, n6, c6, rfl, hn6, hb6, hr6, hnc6, hcm6, hm6⟩
      have HM6 := Lib.hid (HMM5.out.trans0 hm6)
      have HBX6 := Lib.hid (HBX5.out.mod hm6 fun h => h)
      have hr6' : Rd w6 A6 n6 (by8 (nBs [gen, next, log, seq, (n : Int)])) := by
        simp only [nBs, List.append_nil, List.nil_append, List.append_assoc] at hr6 ⊢
        exact hr6
      have HR6 := Lib.hid hr6'
      have hb6' : n6 ≤ 45 := by omega
      clear hr6 hr6' hm6 hn6 c4
      go_wp2_with fail
      go_loopw [4, 5] (fun v i wr => ∃ (k q cq : Nat) (Aq : Option Addr) (dd : List UInt8), k ≤ n ∧ i = .int .i64 k ∧ v = .slice Aq q cq ∧ q ≤ cq ∧ cq ≤ 9223372036854775807 ∧ q ≤ 45 + 173 * k ∧ Hid (EoM w ⟨gen, next, log, seq, A, c, ms⟩ n k w.heap.size Aq q dd wr)) (fun _ i _ => n - (intOf i).toNat)
      case atStart => exact ⟨0, n6, c6, A6, _, Nat.zero_le _, rfl, rfl, hnc6, hcm6, by omega, HM6.out, HBX6.out, by simp [encMs], HR6.out⟩
      case round =>
        obtain ⟨k, q, cq, Aq, dd, hk, rfl, rfl, hq1, hq2, hq3, HP⟩ := hrel
        rename World => wr
        have cv4 : wr.cell? ⟨w.heap.size, 4, none⟩ = some (.slice A n c) := HP.out.box.cell 4
        by_cases hlt : k < n
        · obtain ⟨b, o, y, rfl, hy, g0, g1, g2, g3, g4⟩ := (HROW.out.mod0 HP.out.mod).mw HN.out hlt
          have hyo := (HOK.out y (List.mem_of_getElem? hy)).mod0 HP.out.mod
          have hyr := HMR.out y.m (by rw [HVT.out]; exact List.mem_map.2 ⟨y, List.mem_of_getElem? hy, rfl⟩)
          have hsn : (ms.take (k + 1)).map (·.m) = (ms.take k).map (·.m) ++ [y.m] := by rw [take_snoc' ms k y hy, List.map_append]; rfl
          have hlm := encM_len hyr
          have hsp := encM_split y.m
          have hky : y.m.first.length ≤ 64 ∧ y.m.last.length ≤ 64 := by
            unfold mtRight isKeyB at hyr
            simp only [Bool.and_eq_true, decide_eq_true_eq] at hyr
            exact ⟨hyr.2.2.2.1.2, hyr.2.2.2.2.1.2⟩
          have hdl : dd.length = q := by simpa using HP.out.rd.1
          obtain ⟨⟨num, level, count, first, last⟩, YA, ca, YB, cb⟩ := y
          simp only at g0 g1 g2 g3 g4 hsn hlm hsp hky
          obtain ⟨n1, hn1⟩ : ∃ n1, first.length = n1 := ⟨_, rfl⟩
          obtain ⟨n2', hn2⟩ : ∃ n2, last.length = n2 := ⟨_, rfl⟩
          rw [hn1] at g3 hky
          rw [hn2] at g4 hky
          obtain ⟨hk1, hk2⟩ := hky
          have HSN := Lib.hid hsn
          have HSP := Lib.hid hsp
          have HYO := Lib.hid hyo
          have HDL := Lib.hid hdl
          have hbm : Blk (wr.alloc (.cells #[.int .i64 num, .int .i64 level, .int .i64 count, .slice YA n1 ca, .slice YB n2' cb] 62)) wr.heap.size 62 #[.int .i64 num, .int .i64 level, .int .i64 count, .slice YA n1 ca, .slice YB n2' cb] := Blk.new _ _ _
          have hmm1 : Mod Non wr (wr.alloc (.cells #[.int .i64 num, .int .i64 level, .int .i64 count, .slice YA n1 ca, .slice YB n2' cb] 62)) := (Mod.refl Non wr).alloc _
          have HBM := Lib.hid hbm
          have HMM1 := Lib.hid hmm1
          have i1 : (0 : Int) ≤ (k : Int) := by omega
          have i2 : (k : Int) < (n : Int) := by omega
          have hbl : b < wr.heap.size := World.block_lt_of_cell? wr _ g0
          have HN1 := Lib.hid hn1
          have HNN2 := Lib.hid hn2
          clear hy hyo hyr hsn hsp hn1 hn2 hbm hmm1 hdl
          go_wp2_with fail
          generalize wr.alloc (.cells #[.int .i64 num, .int .i64 level, .int .i64 count, .slice YA n1 ca, .slice YB n2' cb] 62) = W2 at *
          have HKE : Hid (∀ W, Mod Non W2 W → W.cell? ⟨wr.heap.size, 0, none⟩ = some (.int .i64 num) ∧ W.cell? ⟨wr.heap.size, 1, none⟩ = some (.int .i64 level) ∧ W.cell? ⟨wr.heap.size, 2, none⟩ = some (.int .i64 count)) :=
            fun W hW => ⟨(HBM.out.mod hW fun h => h).cell 0, (HBM.out.mod hW fun h => h).cell 1, (HBM.out.mod hW fun h => h).cell 2⟩
          have HD2 := Lib.hid ((Mod.refl Non W2).drew)
          have HRQ := Lib.hid ((HP.out.rd.mod0 HMM1.out).mod0 HD2.out)
          have hke := HKE.out _ HD2.out
          clear g0 g1 g2 g3 g4 cv4
          go_region_held3 (fun w' => w'.cell? ⟨wr.heap.size, 0, none⟩ = some (.int .i64 num) ∧ w'.cell? ⟨wr.heap.size, 1, none⟩ = some (.int .i64 level) ∧ w'.cell? ⟨wr.heap.size, 2, none⟩ = some (.int .i64 count))
            (first | exact hke | assumption | go_keep)
            (first
              | (go_at_call 140
                 (with_reducible refine (putNumR_rd Aq q cq dd num _ (HRQ.out) (by omega)).mono ?_)
                 rintro e w7 ⟨A7, n7, c7, rfl, hn7, hb7, hr7, hnc7, hcm7, hm7⟩
                 have HM7 := Lib.hid (HD2.out.trans0 hm7)
                 have hke := HKE.out w7 HM7.out
                 have HR7 := Lib.hid hr7
                 have HN7 := Lib.hid hn7
                 clear hn7 hr7 hm7)
              | (go_at_call 140
                 (with_reducible refine (putNumR_rd A7 n7 c7 _ level _ (HR7.out) (by omega)).mono ?_)
                 rintro e w8 ⟨A8, n8, c8, rfl, hn8, hb8, hr8, hnc8, hcm8, hm8⟩
                 have HM8 := Lib.hid (HM7.out.trans0 hm8)
                 have hke := HKE.out w8 HM8.out
                 have HR8 := Lib.hid hr8
                 have HN8 := Lib.hid hn8
                 clear hn8 hr8 hm8)
              | (go_at_call 140
                 (with_reducible refine (putNumR_rd A8 n8 c8 _ count _ (HR8.out) (by omega)).mono ?_)
                 rintro e w9 ⟨A9, n9, c9, rfl, hn9, hb9, hr9, hnc9, hcm9, hm9⟩
                 have HM9 := Lib.hid (HM8.out.trans0 hm9)
                 have hke := HKE.out w9 HM9.out
                 have HR9 := Lib.hid hr9
                 have HN9 := Lib.hid hn9
                 clear hn9 hr9 hm9)
              | fail)
          all_goals
            clear hke HKE
            obtain ⟨s1, hs1⟩ : ∃ s1 : ByteArray, (⟨first.toArray⟩ : ByteArray) = s1 := ⟨_, rfl⟩
            obtain ⟨s2, hs2⟩ : ∃ s2 : ByteArray, (⟨last.toArray⟩ : ByteArray) = s2 := ⟨_, rfl⟩
            have hconv1 : ∀ W, Rd W YA n1 (by8 first) → (convert 44 9 (.slice YA n1 ca)).run Tryz.prog W = .ok (.string s1) W := fun W h => by
              rw [← hs1]; exact conv_str W 44 9 5 YA n1 ca first Tryz.underlying44 Tryz.underlying5 Tryz.underlying9 h
            have hconv2 : ∀ W, Rd W YB n2' (by8 last) → (convert 44 9 (.slice YB n2' cb)).run Tryz.prog W = .ok (.string s2) W := fun W h => by
              rw [← hs2]; exact conv_str W 44 9 5 YB n2' cb last Tryz.underlying44 Tryz.underlying5 Tryz.underlying9 h
            have hsz1 : s1.size = n1 := by rw [← hs1, ← HN1.out]; exact List.size_toArray
            have hsz2 : s2.size = n2' := by rw [← hs2, ← HNN2.out]; exact List.size_toArray
            have hsz1' : s1.size ≤ 64 := by omega
            have hsz2' : s2.size ≤ 64 := by omega
            have hsd1 : s1.data.toList = first := by rw [← hs1]
            have hsd2 : s2.data.toList = last := by rw [← hs2]
            have HSD1 := Lib.hid hsd1
            have HSD2 := Lib.hid hsd2
            have HKE : Hid (∀ W, Mod Non w9 W → W.cell? ⟨wr.heap.size, 3, none⟩ = some (.slice YA n1 ca) ∧ W.cell? ⟨wr.heap.size, 4, none⟩ = some (.slice YB n2' cb) ∧ Rd W YA n1 (by8 first) ∧ Rd W YB n2' (by8 last)) :=
              fun W hW => ⟨(HBM.out.mod (HM9.out.trans0 hW) fun h => h).cell 3, (HBM.out.mod (HM9.out.trans0 hW) fun h => h).cell 4, by rw [← HN1.out]; exact ((HYO.out.mod0 HMM1.out).mod0 (HM9.out.trans0 hW)).a, by rw [← HNN2.out]; exact ((HYO.out.mod0 HMM1.out).mod0 (HM9.out.trans0 hW)).b⟩
            have HD9 := Lib.hid ((Mod.refl Non w9).drew)
            have hke := HKE.out _ HD9.out
            clear hs1 hs2 hsz1 hsz2 hsd1 hsd2
            go_wp2_with fail
            go_region_held3 (fun w' => w'.cell? ⟨wr.heap.size, 3, none⟩ = some (.slice YA n1 ca) ∧ w'.cell? ⟨wr.heap.size, 4, none⟩ = some (.slice YB n2' cb) ∧ Rd w' YA n1 (by8 first) ∧ Rd w' YB n2' (by8 last))
              (first | exact hke | assumption | go_keep)
              (first
                | (go_at_call 184
                   (with_reducible refine (putTextR_any A9 n9 c9 _ s1 _ (HR9.out.mod0 HD9.out) (by omega)).mono ?_)
                   rintro e w10 ⟨A10, n10, c10, rfl, hn10, hb10, hr10, hnc10, hcm10, hm10⟩
                   have HM10 := Lib.hid (HD9.out.trans0 hm10)
                   have hke := HKE.out w10 HM10.out
                   have HR10 := Lib.hid hr10
                   have HN10 := Lib.hid hn10
                   clear hn10 hr10 hm10)
                | (go_at_call 184
                   (with_reducible refine (putTextR_any A10 n10 c10 _ s2 _ (HR10.out) (by omega)).mono ?_)
                   rintro e w11 ⟨A11, n11, c11, rfl, hn11, hb11, hr11, hnc11, hcm11, hm11⟩
                   have HM11 := Lib.hid (HM10.out.trans0 hm11)
                   have hke := HKE.out w11 HM11.out
                   have HR11 := Lib.hid hr11
                   have HN11 := Lib.hid hn11
                   clear hn11 hr11 hm11)
                | fail)
          all_goals
            have hbyt : Hid ((((((dd ++ nB num) ++ nB level) ++ nB count) ++ textB s1.data.toList) ++ textB s2.data.toList) = dd ++ encM ⟨num, level, count, first, last⟩) := by
              show _ = _
              rw [HSP.out, HSD1.out, HSD2.out]
              simp only [nBs, List.append_nil, List.append_assoc]
            have hlen6 : n11 ≤ 45 + 173 * (k + 1) := by
              have h1 := HN11.out
              rw [hbyt.out, List.length_append, HDL.out] at h1
              omega
            go_wp2_with fail
            go_roundw
            case rel =>
              refine ⟨k + 1, n11, c11, A11, _, by omega, by go_num, rfl, hnc11, hcm11, hlen6, ((HP.out.mod.trans0 HMM1.out).trans0 HM9.out).trans0 HM11.out, (((HP.out.box.mod HMM1.out fun h => h).mod HM9.out fun h => h).mod HM11.out fun h => h), ?_, HR11.out⟩
              rw [hbyt.out, HP.out.eq, HSN.out, encMs_snoc, List.append_assoc]
            case measure => simp [intOf]; omega
        · obtain rfl : k = n := by omega
          have hdd : dd = encV V := by
            have h1 := HP.out.eq
            rw [List.take_of_length_le (by show ms.length ≤ k; rw [HN.out]; omega)] at h1
            rw [h1, encV_split, HVT.out, ← HV.out]
            simp only [Vw.v, List.length_map, HN.out]
          have hql : (encV V).length = q := by rw [← hdd]; simpa using HP.out.rd.1
          have HDD := Lib.hid hdd
          have HQL := Lib.hid hql
          clear hdd hql
          go_wp2_with fail
          go_ret2
          unfold EnPost
          rw [if_pos HCV.out, HQL.out]
          exact ⟨Aq, cq, rfl, by rw [← HDD.out]; exact HP.out.rd, hq1, hq2, HP.out.mod⟩
  · rw [if_neg hcv]
    have HCV := Lib.hid hcv
    rintro e w1 ⟨rfl, hm1⟩
    clear hcv
    go_wp2_with fail
    go_ret2
    unfold EnPost
    rw [if_neg HCV.out]
    exact ⟨rfl, HMA.out.trans0 hm1⟩

end Go.Proofs.YtdpjnpjmokncdaaGreatDoor

/- sawyerref02.TakeText; sawyerref10's reader: num. -/
namespace Go.Proofs.YtdpjnpjmokncdaaGreatDoor
open Go.RowKit

set_option maxRecDepth 100000 in
set_option maxHeartbeats 1000000 in
theorem takeTextR_any (A : Option Addr) (n c : Nat) (l : List UInt8) (most : Int) (w : World) (h : Rd w A n (by8 l)) (hnc : n ≤ c) (hn : n ≤ 140737488351232) (hcm : c ≤ 9223372036854775807) :
    Calls Tryz.prog 183 #[.slice A n c, .int .i64 most] w (TtPost l most w) := by
  have ht := takeNumR_any A n c l w h hnc (by omega) hcm
  unfold TnqPost at ht
  have hll : l.length = n := by simpa using h.1
  cases htn : takeNum l with
  | none =>
    rw [htn] at ht
    have hp : takeText l most = none := by unfold takeText; rw [htn]
    have HT := Lib.hid ht
    have HP := Lib.hid hp
    clear ht htn hp h
    go_enter Tryz.func183, Tryz.ntmps183
    go_wp2_with fail
    refine HT.out.mono ?_
    rintro e w1 ⟨rfl, hb1⟩
    have HM := Lib.hid (Mod.of_below (S := Non) hb1)
    clear hb1
    go_wp2_with fail
    go_ret3
    unfold TtPost
    rw [HP.out]
    exact ⟨rfl, HM.out⟩
  | some p =>
    obtain ⟨m, rest⟩ := p
    rw [htn] at ht
    obtain ⟨hrl, hm62⟩ := takeNum_spec htn
    have HT := Lib.hid ht
    obtain ⟨q, hq⟩ : ∃ q, rest.length = q := ⟨_, rfl⟩
    rw [hq] at hrl
    have HQ := Lib.hid hq
    by_cases hbad : most < (m : Int) ∨ (q : Int) < (m : Int)
    · have hp : takeText l most = none := by unfold takeText; rw [htn]; simp only; rw [if_pos (by rw [hq]; exact hbad)]
      have HP := Lib.hid hp
      have hfin : ∀ w', Mod Non w w' → TtPost l most w (.returned (.tuple #[.string ⟨#[]⟩, .slice none 0 0, .int .i64 2])) w' := fun w' hw => by
        unfold TtPost
        rw [HP.out]
        exact ⟨rfl, hw⟩
      have HF := Lib.hid hfin
      clear ht htn hp h hq hfin
      by_cases h1 : most < (m : Int)
      · have d1 : decide (most < (m : Int)) = true := decide_eq_true h1
        go_enter Tryz.func183, Tryz.ntmps183
        go_wp2_with fail
        refine HT.out.mono ?_
        rintro e w1 ⟨A1, c1, rfl, ho1, hb1⟩
        have HM := Lib.hid (Mod.of_below (S := Non) hb1)
        clear ho1 hb1
        go_wp2_with fail
        go_ret3
        exact HF.out _ HM.out
      · have d1 : decide (most < (m : Int)) = false := decide_eq_false h1
        have d2 : decide ((q : Int) < (m : Int)) = true := decide_eq_true (hbad.resolve_left h1)
        have d2' : decide (q < m) = true := decide_eq_true (by have := hbad.resolve_left h1; omega)
        clear hbad h1
        go_enter Tryz.func183, Tryz.ntmps183
        go_wp2_with fail
        refine HT.out.mono ?_
        rw [HQ.out]
        rintro e w1 ⟨A1, c1, rfl, ho1, hb1⟩
        have HM := Lib.hid (Mod.of_below (S := Non) hb1)
        clear ho1 hb1
        go_wp2_with fail
        go_ret3
        exact HF.out _ HM.out
    · have hmq : m ≤ q := by omega
      have hmm : (m : Int) ≤ most := by omega
      have hp : takeText l most = some (rest.take m, rest.drop m) := by unfold takeText; rw [htn]; simp only; rw [if_neg (by rw [hq]; exact hbad)]
      have HP := Lib.hid hp
      have d1 : decide (most < (m : Int)) = false := decide_eq_false (by omega)
      have d2 : decide ((q : Int) < (m : Int)) = false := decide_eq_false (by omega)
      have d2' : decide (q < m) = false := decide_eq_false (by omega)
      clear ht htn hp h hq hbad
      go_enter Tryz.func183, Tryz.ntmps183
      go_wp2_with fail
      refine HT.out.mono ?_
      rw [HQ.out]
      rintro e w1 ⟨A1, c1, rfl, ho1, hb1⟩
      obtain ⟨A1', c1', he, hc1, hc2⟩ := own_slice ho1
      cases he
      have hr1 := Rd.of_own ho1
      have hbase := own_base ho1
      have hmx : maxLen = 9223372036854775807 := rfl
      have hcv : ∀ j, (convert 44 9 (.slice A1 m c1)).run Tryz.prog (w1.drewN j) = .ok (.string ⟨(rest.take m).toArray⟩) (w1.drewN j) := fun j =>
        conv_str (w1.drewN j) 44 9 5 A1 m c1 (rest.take m) Tryz.underlying44 Tryz.underlying5 Tryz.underlying9 (by rw [by8_take]; exact hr1.take hmq)
      have hcut := hr1.cut (cap := c1) hmq hc1
      rw [← by8_drop] at hcut
      have hcb : ∀ b, blkOf (if c1 = m then A1 else A1.map (·.add m)) = some b → w.heap.size ≤ b := fun b hb => by
        by_cases hx : w.heap.size ≤ b
        · exact hx
        · exact absurd (Off.cut (S := fun k => k = b) (A := A1) (k := m) (cap := c1) (fun b' hb' e => hx (by rw [← e]; exact hbase b' hb')) b hb rfl).elim id
      have HM := Lib.hid (Mod.of_below (S := Non) hb1)
      have hc3 : c1 ≤ 9223372036854775807 := by omega
      have hform : (A1 = none ∧ c1 = 0) ∨ ∃ g, A1 = some ⟨g, 0, none⟩ := by
        rcases ho1.2 with ⟨hv, _⟩ | ⟨g, cap, cur, hv, _⟩
        · cases hv; exact .inl ⟨rfl, rfl⟩
        · cases hv; exact .inr ⟨g, rfl⟩
      have hrl2 : (rest.drop m).length = q - m := by rw [List.length_drop, HQ.out]
      have hfin : ∀ (A2 : Option Addr) (cc : Nat) (w' : World), (if c1 = m then A1 else A1.map (·.add m)) = A2 → q - m ≤ cc → cc ≤ 9223372036854775807 → Mod Non w1 w' → TtPost l most w (.returned (.tuple #[.string ⟨(rest.take m).toArray⟩, .slice A2 (q - m) cc, .int .i64 0])) w' := fun A2 cc w' e1 e2 e3 e4 => by
        unfold TtPost
        rw [HP.out]
        simp only
        rw [hrl2]
        exact ⟨A2, cc, rfl, by rw [← e1]; exact hcut.mod0 e4, by rw [← e1]; exact hcb, e2, e3, HM.out.trans0 e4⟩
      have HF := Lib.hid hfin
      clear ho1 hb1 hr1 hbase hmx hcut hcb hfin hrl2
      obtain ⟨sv, hsv⟩ : ∃ sv : ByteArray, (⟨(rest.take m).toArray⟩ : ByteArray) = sv := ⟨_, rfl⟩
      rw [hsv] at hcv HF
      clear hsv
      rcases hform with ⟨rfl, rfl⟩ | ⟨g, rfl⟩
      · obtain rfl : q = 0 := by omega
        obtain rfl : m = 0 := by omega
        go_wp2_with fail
        go_quiet (fail)
        go_wp2_with fail
        go_ret3
        exact HF.out none 0 _ rfl (by omega) (by omega) ((Mod.refl Non w1).drewN _)
      · by_cases hcm1 : c1 = m
        · subst hcm1
          obtain rfl : q = c1 := by omega
          have HF2 : ∀ w', Mod Non w1 w' → TtPost l most w (.returned (.tuple #[.string sv, .slice (some ⟨g, 0, none⟩) 0 0, .int .i64 0])) w' := fun w' hw => by
            have := HF.out (some ⟨g, 0, none⟩) 0 w' (by simp) (by omega) (by omega) hw
            rw [Nat.sub_self] at this
            exact this
          go_wp2_with fail
          go_quiet (fail)
          go_wp2_with fail
          go_ret3
          exact HF2 _ ((Mod.refl Non w1).drewN _)
        · have q1 : (m : Int) ≤ (c1 : Int) := by omega
          have q2 : (m : Int) ≤ (q : Int) := by omega
          have q3 : (0 : Int) ≤ (m : Int) := by omega
          have HF2 : ∀ w', Mod Non w1 w' → TtPost l most w (.returned (.tuple #[.string sv, .slice (some ⟨g, m, none⟩) (q - m) (c1 - m), .int .i64 0])) w' := fun w' hw =>
            HF.out (some ⟨g, m, none⟩) (c1 - m) w' (by rw [if_neg hcm1]; simp [Addr.add]; exact fun h => h.symm) (by omega) (by omega) hw
          go_wp2_with fail
          go_quiet (fail)
          go_wp2_with fail
          go_ret3
          exact HF2 _ ((Mod.refl Non w1).drewN _)

/-- the reader in memory. -/
structure RtAt (w : World) (rb : Nat) (s : Rs) (A : Option Addr) (n c : Nat) : Prop where
  blk : Blk w rb 185 #[.slice A n c, .bool s.bad]
  rd : Rd w A n (by8 s.b)
  nc : n ≤ c
  cm : c ≤ 9223372036854775807
  off : 0 < n → ∀ b, blkOf A = some b → b ≠ rb
  le : n ≤ 140737488351232
theorem RtAt.mod {S : Nat → Prop} {w w' : World} {rb : Nat} {s : Rs} {A : Option Addr} {n c : Nat} (h : RtAt w rb s A n c) (hm : Mod S w w') (h1 : ¬ S rb) (h2 : 0 < n → Off S A) : RtAt w' rb s A n c :=
  ⟨h.blk.mod hm h1, h.rd.mod hm h2, h.nc, h.cm, h.off, h.le⟩
def RtPost (rb : Nat) (s : Rs) (v : Value) (w : World) (e : Ending) (w' : World) : Prop :=
  e = .returned v ∧ ∃ A n c, RtAt w' rb s A n c ∧ Mod (fun k => k = rb) w w' ∧ (0 < n → ∀ b, blkOf A = some b → w.heap.size ≤ b)
set_option maxRecDepth 100000 in
set_option maxHeartbeats 2000000 in
theorem numQ_any (rb : Nat) (s : Rs) (A : Option Addr) (n c : Nat) (w : World) (h : RtAt w rb s A n c) :
    Calls Tryz.prog 141 #[.pointer (some ⟨rb, 0, none⟩)] w (RtPost rb (numP s).2 (.int .i64 (numP s).1) w) := by
  have c0 : w.cell? ⟨rb, 0, none⟩ = some (.slice A n c) := h.blk.cell 0
  have hrb := h.blk.lt
  have ht := takeNumR_any A n c s.b w h.rd h.nc (by have := h.le; omega) h.cm
  unfold TnqPost at ht
  have hsl : s.b.length = n := by simpa using h.rd.1
  have HS := Lib.hid h
  cases htn : takeNum s.b with
  | none =>
    rw [htn] at ht
    have hp : numP s = (0, ⟨[], true⟩) := by unfold numP; rw [htn]
    rw [hp]
    have HT := Lib.hid ht
    have hd : ∃ bd, s.bad = bd := ⟨_, rfl⟩
    obtain ⟨bd, hbd⟩ := hd
    have HBD := Lib.hid hbd
    clear ht htn hp h hbd
    have hfin : Hid (∀ w1, Mod Non w w1 → RtPost rb ⟨[], true⟩ (.int .i64 0) w (.returned (.int .i64 0)) ((w1.setCell ⟨rb, 1, none⟩ (.bool true)).setCell ⟨rb, 0, none⟩ (.slice none 0 0))) := fun w1 hm1 => by
      refine ⟨rfl, none, 0, 0, ⟨?_, Rd.nil _ _, by omega, by omega, (fun h => absurd h (by omega)), by omega⟩, ((hm1.non.trans0 (Mod.refl Non w1)).set1 1 _).set1 0 _, fun h => absurd h (by omega)⟩
      have := ((HS.out.blk.mod hm1 fun h => h).set_ 1 (.bool true)).set_ 0 (.slice none 0 0)
      exact this
    cases bd with
    | true =>
      go_enter Tryz.func141, Tryz.ntmps141
      go_wp2_with fail
      refine HT.out.mono ?_
      rintro e w1 ⟨rfl, hb1⟩
      have hm1 : Mod Non w w1 := Mod.of_below hb1
      have hblk1 := HS.out.blk.mod hm1 fun h => h
      have e1 : w1.cell? ⟨rb, 1, none⟩ = some (.bool true) := by have := hblk1.cell 1; rw [HBD.out] at this; exact this
      have e0 : w1.cell? ⟨rb, 0, none⟩ = some (.slice A n c) := hblk1.cell 0
      have f0 := hblk1.frozen 0
      have f1 := hblk1.frozen 1
      have HM1 := Lib.hid hm1
      clear hm1 hb1 hblk1 c0
      go_wp2_with fail
      go_ret
      exact hfin.out _ HM1.out
    | false =>
      go_enter Tryz.func141, Tryz.ntmps141
      go_wp2_with fail
      refine HT.out.mono ?_
      rintro e w1 ⟨rfl, hb1⟩
      have hm1 : Mod Non w w1 := Mod.of_below hb1
      have hblk1 := HS.out.blk.mod hm1 fun h => h
      have e1 : w1.cell? ⟨rb, 1, none⟩ = some (.bool false) := by have := hblk1.cell 1; rw [HBD.out] at this; exact this
      have e0 : w1.cell? ⟨rb, 0, none⟩ = some (.slice A n c) := hblk1.cell 0
      have f0 := hblk1.frozen 0
      have f1 := hblk1.frozen 1
      have HM1 := Lib.hid hm1
      clear hm1 hb1 hblk1 c0
      go_wp2_with fail
      go_ret
      exact hfin.out _ HM1.out
  | some p =>
    obtain ⟨m, rest⟩ := p
    rw [htn] at ht
    have hrl := (takeNum_spec htn).1
    have hp : numP s = ((m : Int), ⟨rest, s.bad⟩) := by unfold numP; rw [htn]
    rw [hp]
    have HT := Lib.hid ht
    have hd : ∃ bd, s.bad = bd := ⟨_, rfl⟩
    obtain ⟨bd, hbd⟩ := hd
    have HBD := Lib.hid hbd
    have hle := h.le
    rw [hsl] at hrl
    clear ht htn hp h
    go_enter Tryz.func141, Tryz.ntmps141
    go_wp2_with fail
    refine HT.out.mono ?_
    rintro e w1 ⟨A1, c1, rfl, ho1, hb1⟩
    obtain ⟨A1', c1', he, hc1, hc2⟩ := own_slice ho1
    cases he
    have hr1 := Rd.of_own ho1
    have hbase := own_base ho1
    have hmx : maxLen = 9223372036854775807 := rfl
    have hm1 : Mod Non w w1 := Mod.of_below hb1
    have hblk1 := HS.out.blk.mod hm1 fun h => h
    have e1 : w1.cell? ⟨rb, 1, none⟩ = some (.bool bd) := by rw [← HBD.out]; exact hblk1.cell 1
    have e0 : w1.cell? ⟨rb, 0, none⟩ = some (.slice A n c) := hblk1.cell 0
    have f0 := hblk1.frozen 0
    have f1 := hblk1.frozen 1
    have hfin : Hid (RtPost rb ⟨rest, s.bad⟩ (.int .i64 (m : Int)) w (.returned (.int .i64 (m : Int))) ((w1.setCell ⟨rb, 1, none⟩ (.bool bd)).setCell ⟨rb, 0, none⟩ (.slice A1 rest.length c1))) := by
      refine ⟨rfl, A1, rest.length, c1, ⟨?_, ?_, hc1, by omega, fun _ b hb e => by have := hbase b hb; omega, by omega⟩, ((hm1.non.trans0 (Mod.refl Non w1)).set1 1 _).set1 0 _, fun _ b hb => hbase b hb⟩
      · have := (hblk1.set_ 1 (.bool bd)).set_ 0 (.slice A1 rest.length c1)
        rw [HBD.out]
        exact this
      · exact hr1.mod (((Mod.refl (fun k => k = rb) w1).set1 1 _).set1 0 _) fun _ b hb e => by have := hbase b hb; omega
    clear hr1 hbase ho1 hb1 hm1 hblk1 hbd hmx c0
    cases bd with
    | true =>
      go_wp2_with fail
      go_ret
      exact hfin.out
    | false =>
      go_wp2_with fail
      go_ret
      exact hfin.out

end Go.Proofs.YtdpjnpjmokncdaaGreatDoor

/- sawyerref10's reader: text. -/
namespace Go.Proofs.YtdpjnpjmokncdaaGreatDoor
open Go.RowKit

def TyPost (rb : Nat) (s : Rs) (w : World) (e : Ending) (w' : World) : Prop :=
  ∃ T ct, e = .returned (.slice T (textP s).1.length ct) ∧ Rd w' T (textP s).1.length (by8 (textP s).1) ∧ (textP s).1.length ≤ ct ∧ ct ≤ 9223372036854775807 ∧
    (∀ b, blkOf T = some b → w.heap.size ≤ b) ∧ ∃ A n c, RtAt w' rb (textP s).2 A n c ∧ Mod (fun k => k = rb) w w' ∧ (0 < n → ∀ b, blkOf A = some b → w.heap.size ≤ b)
theorem convR_fin (rb : Nat) (w w1 : World) (t : List UInt8) (s' : Rs) (A : Option Addr) (n c : Nat) (hr : RtAt w1 rb s' A n c) (hm : Mod (fun k => k = rb) w w1) (hfr : 0 < n → ∀ b, blkOf A = some b → w.heap.size ≤ b) (ht : t.length ≤ 4611686018427387903)
    (s : Rs) (hs : textP s = (t, s')) (sv : ByteArray) (hsv : (⟨t.toArray⟩ : ByteArray) = sv) (k z : Nat) (hk : w1.heap.size = k) (hz' : sv.size = z) :
    TyPost rb s w (.returned (.slice (some ⟨k, 0, none⟩) z (grownCap w1 z 0 5))) (Lib.bytesWorld w1 5 sv) := by
  subst hk
  subst hz'
  subst hsv
  have hz : (⟨t.toArray⟩ : ByteArray).size = t.length := by simp [ByteArray.size]
  have hb := bytesWorld_mod w1 ⟨t.toArray⟩
  unfold TyPost
  rw [hs, hz]
  refine ⟨_, _, rfl, bytesWorld_rd w1 t, grownCap_ge _ _ _ _, ?_, fun b hb => by cases hb; exact hm.size, A, n, c, hr.mod hb (fun h => h) (fun _ => Off.non A), hm.trans0 hb, hfr⟩
  have hmx : maxLen = 9223372036854775807 := rfl
  have := grownCap_le_maxLen w1 t.length 0 5 (by omega)
  omega

set_option maxRecDepth 100000 in
set_option maxHeartbeats 2000000 in
theorem textQ_any (rb : Nat) (s : Rs) (A : Option Addr) (n c : Nat) (w : World) (h : RtAt w rb s A n c) :
    Calls Tryz.prog 142 #[.pointer (some ⟨rb, 0, none⟩)] w (TyPost rb s w) := by
  have c0 : w.cell? ⟨rb, 0, none⟩ = some (.slice A n c) := h.blk.cell 0
  have hrb := h.blk.lt
  have ht := takeTextR_any A n c s.b 64 w h.rd h.nc h.le h.cm
  unfold TtPost at ht
  have hsl : s.b.length = n := by simpa using h.rd.1
  have HS := Lib.hid h
  have hd : ∃ bd, s.bad = bd := ⟨_, rfl⟩
  obtain ⟨bd, hbd⟩ := hd
  have HBD := Lib.hid hbd
  have hcs := fun (w : World) (s : ByteArray) => Lib.run_convert_string_bytes (P := Tryz.prog) w 9 44 5 s Tryz.underlying9 Tryz.underlying44 Tryz.underlying5
  cases htn : takeText s.b 64 with
  | none =>
    rw [htn] at ht
    have hp : textP s = ([], ⟨[], true⟩) := by unfold textP; rw [htn]
    have HT := Lib.hid ht
    have HP := Lib.hid hp
    clear ht htn hp h
    go_enter Tryz.func142, Tryz.ntmps142
    go_wp2_with fail
    refine HT.out.mono ?_
    rintro e w1 ⟨rfl, hm1⟩
    have hblk1 := HS.out.blk.mod hm1 fun h => h
    have e1 : w1.cell? ⟨rb, 1, none⟩ = some (.bool bd) := by rw [← HBD.out]; exact hblk1.cell 1
    have e0 : w1.cell? ⟨rb, 0, none⟩ = some (.slice A n c) := hblk1.cell 0
    have f0 := hblk1.frozen 0
    have f1 := hblk1.frozen 1
    have hfin : Hid (RtAt ((w1.setCell ⟨rb, 1, none⟩ (.bool true)).setCell ⟨rb, 0, none⟩ (.slice none 0 0)) rb ⟨[], true⟩ none 0 0 ∧ Mod (fun k => k = rb) w ((w1.setCell ⟨rb, 1, none⟩ (.bool true)).setCell ⟨rb, 0, none⟩ (.slice none 0 0))) := by
      refine ⟨⟨?_, Rd.nil _ _, by omega, by omega, (fun h => absurd h (by omega)), by omega⟩, ((hm1.non.trans0 (Mod.refl Non w1)).set1 1 _).set1 0 _⟩
      exact (hblk1.set_ 1 (.bool true)).set_ 0 (.slice none 0 0)
    clear hblk1 hm1 c0 hbd
    cases bd with
    | true =>
      go_wp2_with fail
      go_ret
      exact convR_fin rb w _ [] ⟨[], true⟩ none 0 0 hfin.out.1 hfin.out.2 (fun h => absurd h (by omega)) (by simp) s HP.out _ rfl _ _ (by simp) rfl
    | false =>
      go_wp2_with fail
      go_ret
      exact convR_fin rb w _ [] ⟨[], true⟩ none 0 0 hfin.out.1 hfin.out.2 (fun h => absurd h (by omega)) (by simp) s HP.out _ rfl _ _ (by simp) rfl
  | some p =>
    obtain ⟨t, rest⟩ := p
    rw [htn] at ht
    obtain ⟨hrl, htl⟩ := takeText_len htn
    have hp : textP s = (t, ⟨rest, s.bad⟩) := by unfold textP; rw [htn]
    have HT := Lib.hid ht
    have HP := Lib.hid hp
    have hle := h.le
    rw [hsl] at hrl
    obtain ⟨sv, hsv⟩ : ∃ sv : ByteArray, (⟨t.toArray⟩ : ByteArray) = sv := ⟨_, rfl⟩
    have HSV := Lib.hid hsv
    simp only [hsv] at ht
    have HT := Lib.hid ht
    clear ht htn hp h hsv
    go_enter Tryz.func142, Tryz.ntmps142
    go_wp2_with fail
    refine HT.out.mono ?_
    rintro e w1 ⟨A1, c1, rfl, hr1, hbase, hc1, hc2, hm1⟩
    have hblk1 := HS.out.blk.mod hm1 fun h => h
    have e1 : w1.cell? ⟨rb, 1, none⟩ = some (.bool bd) := by rw [← HBD.out]; exact hblk1.cell 1
    have e0 : w1.cell? ⟨rb, 0, none⟩ = some (.slice A n c) := hblk1.cell 0
    have f0 := hblk1.frozen 0
    have f1 := hblk1.frozen 1
    have hfin : Hid (RtAt ((w1.setCell ⟨rb, 1, none⟩ (.bool bd)).setCell ⟨rb, 0, none⟩ (.slice A1 rest.length c1)) rb ⟨rest, s.bad⟩ A1 rest.length c1 ∧ Mod (fun k => k = rb) w ((w1.setCell ⟨rb, 1, none⟩ (.bool bd)).setCell ⟨rb, 0, none⟩ (.slice A1 rest.length c1))) := by
      refine ⟨⟨?_, ?_, hc1, hc2, fun _ b hb e => by have := hbase b hb; omega, by omega⟩, ((hm1.non.trans0 (Mod.refl Non w1)).set1 1 _).set1 0 _⟩
      · have := (hblk1.set_ 1 (.bool bd)).set_ 0 (.slice A1 rest.length c1)
        rw [HBD.out]
        exact this
      · exact hr1.mod (((Mod.refl (fun k => k = rb) w1).set1 1 _).set1 0 _) fun _ b hb e => by have := hbase b hb; omega
    have HB := Lib.hid hbase
    clear hr1 hbase hm1 hblk1 hbd c0
    cases bd with
    | true =>
      go_wp2_with fail
      go_ret
      exact convR_fin rb w _ t ⟨rest, s.bad⟩ A1 rest.length c1 hfin.out.1 hfin.out.2 (fun _ => HB.out) (by omega) s HP.out _ HSV.out _ _ (by simp) rfl
    | false =>
      go_wp2_with fail
      go_ret
      exact convR_fin rb w _ t ⟨rest, s.bad⟩ A1 rest.length c1 hfin.out.1 hfin.out.2 (fun _ => HB.out) (by omega) s HP.out _ HSV.out _ _ (by simp) rfl

end Go.Proofs.YtdpjnpjmokncdaaGreatDoor

/- sawyerref10.Decode: what is kept between two rounds; sawyerref02.Same. -/
namespace Go.Proofs.YtdpjnpjmokncdaaGreatDoor
open Go.RowKit

/-! the reference's parse, plain -/
def tabsQ : Nat → Int → Rs → List Mt → List Mt × Rs
  | 0, _, s, acc => (acc, s)
  | f + 1, n, s, acc => if (acc.length : Int) < n ∧ s.bad = false then tabsQ f n (metaP s).2 (acc ++ [(metaP s).1]) else (acc, s)
def parseQ (l : List UInt8) : Vs × Rs :=
  let a := numP ⟨l, false⟩; let b := numP a.2; let c := numP b.2; let d := numP c.2; let n := numP d.2
  let t := tabsQ 4096 n.1 n.2 []
  (⟨a.1, b.1, c.1, d.1, t.1⟩, t.2)
def decQ (l : List UInt8) : Option Vs := if (parseQ l).2.bad = false ∧ checkV (parseQ l).1 = true ∧ encV (parseQ l).1 = l then some (parseQ l).1 else none
theorem tabsQ_encMs : ∀ (l : List Mt) (f : Nat) (acc : List Mt) (r : List UInt8), l.length ≤ f → (∀ m ∈ l, mtRight m = true) →
    tabsQ f ((acc.length + l.length : Nat) : Int) ⟨encMs l ++ r, false⟩ acc = (acc ++ l, ⟨r, false⟩)
  | [], f, acc, r, _, _ => by
    cases f with
    | zero => simp [tabsQ, encMs]
    | succ f =>
      rw [tabsQ, if_neg (by simp)]
      simp [encMs]
  | m :: l, f, acc, r, hf, hm => by
    obtain ⟨g, rfl⟩ : ∃ g, f = g + 1 := ⟨f - 1, by simp at hf; omega⟩
    simp only [List.length_cons] at hf
    rw [tabsQ, if_pos ⟨by simp only [List.length_cons]; omega, rfl⟩, encMs, List.append_assoc, metaP_encM (hm m (.head _))]
    simp only
    have := tabsQ_encMs l g (acc ++ [m]) r (by omega) fun k hk => hm k (.tail _ hk)
    rw [List.length_append, List.length_singleton, show acc.length + 1 + l.length = acc.length + (m :: l).length by simp; omega] at this
    rw [this, List.append_assoc]
    rfl
theorem parseQ_encV {v : Vs} (h : checkV v = true) : parseQ (encV v) = (v, ⟨[], false⟩) := by
  unfold checkV headOk at h
  simp only [Bool.and_eq_true, inN_iff, decide_eq_true_eq] at h
  obtain ⟨⟨h1, h2, h3, h4, h5⟩, h6⟩ := h
  unfold parseQ encV
  simp only
  rw [numP_nB h1.1 h1.2]
  simp only
  rw [numP_nB h2.1 h2.2]
  simp only
  rw [numP_nB h3.1 h3.2]
  simp only
  rw [numP_nB h4.1 h4.2]
  simp only
  rw [numP_nB (by omega) (by omega)]
  simp only
  have := tabsQ_encMs v.tables 4096 [] [] h5 (tabsAll_right h6)
  rw [List.append_nil, List.length_nil, Nat.zero_add] at this
  rw [this]
  simp
theorem decQ_eq (l : List UInt8) : decQ l = decV l := by
  cases h : decV l with
  | some v =>
    obtain ⟨h1, h2⟩ := decV_some h
    subst h2
    unfold decQ
    rw [parseQ_encV h1, if_pos ⟨rfl, h1, rfl⟩]
  | none =>
    unfold decQ
    split
    · rename_i hc
      exfalso
      have := decV_encV hc.2.1
      rw [hc.2.2, h] at this
      cases this
    · rfl

set_option maxRecDepth 100000 in
/-- sawyerref02.Same. -/
theorem sameQ_any (A B : Option Addr) (n c m d : Nat) (l k : List UInt8) (w : World) (h1 : Rd w A n (by8 l)) (h2 : Rd w B m (by8 k)) :
    Calls Tryz.prog 144 #[.slice A n c, .slice B m d] w fun e w' => e = .returned (.bool (decide (l = k))) ∧ w' = w := by
  have e1 := conv_str w 44 9 5 A n c l Tryz.underlying44 Tryz.underlying5 Tryz.underlying9 h1
  have e2 := conv_str w 44 9 5 B m d k Tryz.underlying44 Tryz.underlying5 Tryz.underlying9 h2
  clear h1 h2
  by_cases he : l = k
  · subst he
    rw [decide_eq_true rfl]
    go_enter Tryz.func144, Tryz.ntmps144
    go_wp2
    go_ret
    exact ⟨by first | rfl | simp, rfl⟩
  · have hs2 : (l == k) = false := beq_eq_false_iff_ne.2 he
    rw [decide_eq_false he]
    clear he
    go_enter Tryz.func144, Tryz.ntmps144
    go_wp2
    go_ret
    exact ⟨by first | rfl | simp [hs2], rfl⟩

/-- between two rounds. -/
structure DqM (w0 : World) (rb vb : Nat) (g1 g2 g3 g4 : Int) (T : List Mt × Rs) (k : Nat) (nn : Int) (wr : World) (Av : Option Addr) (cv : Nat) (ms : List Mw) (s : Rs) (A : Option Addr) (n c : Nat) : Prop where
  mod : Mod (fun k => k = rb ∨ k = vb) w0 wr
  vbk : Blk wr vb 30 #[.int .i64 g1, .int .i64 g2, .int .i64 g3, .int .i64 g4, .slice Av k cv]
  rs : RtAt wr rb s A n c
  own : wr.ownsRow w0.heap.size 62 5 (.slice Av k cv) k (ms.flatMap Mw.cells)
  ln : ms.length = k
  ok : ∀ m ∈ ms, MwO wr (DeF vb Av) m
  tabs : tabsQ (4096 - k) nn s (ms.map (·.m)) = T


theorem dq_next {w0 : World} {rb vb : Nat} {g1 g2 g3 g4 : Int} {T : List Mt × Rs} {k : Nat} {nn : Int} {wr : World} {Av : Option Addr} {cv : Nat} {ms : List Mw} {s t5 : Rs} {A : Option Addr} {n c : Nat}
    {u5 qw : World} {x : Mw} {B5 : Option Addr} {m5 d5 : Nat} {o : Obj} {qA : Option Addr} {qc : Nat}
    (HP : DqM w0 rb vb g1 g2 g3 g4 T k nn wr Av cv ms s A n c) (hrv : rb < vb) (hv0 : vb < w0.heap.size)
    (Y5 : Mod (fun i => i = rb) wr u5)
    (z4 : Rd u5 x.A x.m.first.length (by8 x.m.first) ∧ x.m.first.length ≤ x.ca ∧ x.ca ≤ 9223372036854775807 ∧ ∀ b, blkOf x.A = some b → wr.heap.size ≤ b)
    (z5 : Rd u5 x.B x.m.last.length (by8 x.m.last) ∧ x.m.last.length ≤ x.cb ∧ x.cb ≤ 9223372036854775807 ∧ ∀ b, blkOf x.B = some b → wr.heap.size ≤ b)
    (X5 : RtAt u5 rb t5 B5 m5 d5) (YF : 0 < m5 → ∀ b, blkOf B5 = some b → wr.heap.size ≤ b)
    (qg : (u5.alloc o).grownBy qw (Value.slice Av k cv).ownBlock)
    (qat : blkOf qA = (Value.slice Av k cv).ownBlock ∨ blkOf qA = some (u5.alloc o).heap.size)
    (qown : qw.ownsRow w0.heap.size 62 5 (.slice qA (k + 1) qc) (k + 1) ((ms ++ [x]).flatMap Mw.cells))
    (htab : tabsQ (4096 - (k + 1)) nn t5 (ms.map (·.m) ++ [x.m]) = T) :
    DqM w0 rb vb g1 g2 g3 g4 T (k + 1) nn (qw.setCell ⟨vb, 4, none⟩ (.slice qA (k + 1) qc)) qA qc (ms ++ [x]) t5 B5 m5 d5 := by
  rw [own_blk] at qg qat
  rw [World.size_alloc] at qat
  have hlv : ∀ b, blkOf Av = some b → w0.heap.size ≤ b ∧ b < wr.heap.size := fun b hb => HP.own.lt b (by rw [own_blk]; exact hb)
  have hlq : ∀ b, blkOf qA = some b → w0.heap.size ≤ b ∧ b < qw.heap.size := fun b hb => qown.lt b (by rw [own_blk]; exact hb)
  have s0 := HP.mod.size
  have s5 := Y5.size
  -- from u5 to the end
  have m5q : Mod (fun i => blkOf Av = some i) u5 qw := ((Mod.refl _ u5).alloc o).trans (Mod.of_grown (S := fun i => blkOf Av = some i) qg fun i h => h) fun i h => .inl h
  have m5f : Mod (fun i => i = vb ∨ blkOf Av = some i) u5 (qw.setCell ⟨vb, 4, none⟩ (.slice qA (k + 1) qc)) :=
    (m5q.mono fun i h => .inr h).setCell (p := ⟨vb, 4, none⟩) (.inl (.inl rfl)) _
  have mrf0 : Mod (fun i => i = rb ∨ i = vb ∨ blkOf Av = some i) wr (qw.setCell ⟨vb, 4, none⟩ (.slice qA (k + 1) qc)) :=
    (Y5.mono fun i h => .inl h).trans m5f fun i h => .inl (h.elim (fun h => .inr (.inl h)) fun h => .inr (.inr h))
  have mrf : Mod (DeF vb Av) wr (qw.setCell ⟨vb, 4, none⟩ (.slice qA (k + 1) qc)) := mrf0.mono fun i h => by
    rcases h with h | h | h
    · exact .inl (by omega)
    · exact .inl (by omega)
    · exact .inr h
  have hF' : ∀ i, DeF vb qA i → DeF vb Av i ∨ wr.heap.size ≤ i := fun i h => by
    rcases h with h | h
    · exact .inl (.inl h)
    · rcases qat with q | q
      · rw [q] at h
        exact .inl (.inr h)
      · rw [q] at h
        cases h
        exact .inr (by omega)
  have hFb : ∀ i, DeF vb qA i → i < wr.heap.size ∨ i = u5.heap.size + 1 := fun i h => by
    rcases h with h | h
    · exact .inl (by omega)
    · rcases qat with q | q
      · rw [q] at h
        exact .inl (hlv _ h).2
      · rw [q] at h
        cases h
        exact .inr rfl
  refine ⟨?_, ?_, ?_, ?_, by rw [List.length_append, HP.ln]; rfl, ?_, by rw [List.map_append]; exact htab⟩
  · refine HP.mod.trans mrf0 fun i h => ?_
    rcases h with h | h | h
    · exact .inl (.inl h)
    · exact .inl (.inr h)
    · exact .inr (hlv _ h).1
  · have hb : Blk qw vb 30 #[.int .i64 g1, .int .i64 g2, .int .i64 g3, .int .i64 g4, .slice Av k cv] :=
      ((HP.vbk.mod Y5 (by omega)).mod m5q fun h => by have := (hlv _ h).1; omega)
    exact hb.set_ 4 _
  · refine X5.mod m5f (fun h => ?_) fun h0 b hb h => ?_
    · rcases h with h | h
      · omega
      · have := (hlv _ h).1
        omega
    · have := YF h0 b hb
      rcases h with h | h
      · omega
      · have := (hlv _ h).2
        omega
  · refine own_mod qown ((Mod.refl (fun i => i = vb) qw).setCell (p := ⟨vb, 4, none⟩) (.inl rfl) _) fun b hb h => ?_
    rw [own_blk] at hb
    have := (hlq _ hb).1
    omega
  · intro m hm
    rcases List.mem_append.1 hm with hm | hm
    · exact (HP.ok m hm).next mrf hF'
    · rw [List.mem_singleton.1 hm]
      refine ⟨⟨z4.1.mod m5f fun h0 b hb h => ?_, fun h0 b hb h => ?_⟩, ⟨z5.1.mod m5f fun h0 b hb h => ?_, fun h0 b hb h => ?_⟩, ⟨z4.2.1, z4.2.2.1⟩, ⟨z5.2.1, z5.2.2.1⟩⟩
      · have := z4.2.2.2 b hb
        rcases h with h | h
        · omega
        · have := (hlv _ h).2
          omega
      · have h1 := z4.2.2.2 b hb
        obtain ⟨b', hb', h2⟩ := z4.1.lt h0
        rw [hb] at hb'
        cases hb'
        rcases hFb b h with h | h <;> omega
      · have := z5.2.2.2 b hb
        rcases h with h | h
        · omega
        · have := (hlv _ h).2
          omega
      · have h1 := z5.2.2.2 b hb
        obtain ⟨b', hb', h2⟩ := z5.1.lt h0
        rw [hb] at hb'
        cases hb'
        rcases hFb b h with h | h <;> omega

theorem dq_vw {w0 : World} {rb vb : Nat} {g1 g2 g3 g4 : Int} {T : List Mt × Rs} {k : Nat} {nn : Int} {wr : World} {Av : Option Addr} {cv : Nat} {ms : List Mw} {s : Rs} {A : Option Addr} {n c : Nat}
    (HP : DqM w0 rb vb g1 g2 g3 g4 T k nn wr Av cv ms s A n c) (hv0 : vb < w0.heap.size) {S : Nat → Prop} (hS : ∀ i, S i → i ≤ vb) {w' : World} (hm : Mod S wr w') : VwOk w' ⟨g1, g2, g3, g4, Av, cv, ms⟩ := by
  have hlv : ∀ b, blkOf Av = some b → w0.heap.size ≤ b ∧ b < wr.heap.size := fun b hb => HP.own.lt b (by rw [own_blk]; exact hb)
  obtain ⟨hkc, hkm⟩ : k ≤ cv ∧ cv ≤ 9223372036854775807 := by
    obtain ⟨A', c', he, h1, h2⟩ := own_slice HP.own
    cases he
    exact ⟨h1, h2⟩
  refine ⟨?_, by simp only; rw [HP.ln]; exact hkc, hkm, fun m hx => ?_⟩
  · have := (Rd.of_own5 HP.own).mod hm fun _ b hb h => by
      have := (hlv b hb).1
      have := hS b h
      omega
    simp only
    rw [HP.ln]
    exact this
  · have hx := HP.ok m hx
    exact ⟨hx.a.1.mod hm fun h0 b hb h => hx.a.2 h0 b hb (.inl (hS b h)), hx.b.1.mod hm fun h0 b hb h => hx.b.2 h0 b hb (.inl (hS b h)), hx.a1, hx.b1⟩

end Go.Proofs.YtdpjnpjmokncdaaGreatDoor

/- sawyerref10.Decode. -/
namespace Go.Proofs.YtdpjnpjmokncdaaGreatDoor
open Go.RowKit

set_option maxRecDepth 100000 in
set_option maxHeartbeats 8000000 in
theorem decodeR_any (A : Option Addr) (n c : Nat) (l : List UInt8) (w : World) (h : Rd w A n (by8 l)) (hnc : n ≤ c) (hcm : c ≤ 9223372036854775807) (hn : n ≤ 140737488351232) :
    Calls Tryz.prog 108 #[.slice A n c] w (DePost l w) := by
  obtain ⟨g1, s1, h1⟩ : ∃ g s, numP ⟨l, false⟩ = (g, s) := ⟨_, _, rfl⟩
  obtain ⟨g2, s2, h2⟩ : ∃ g s, numP s1 = (g, s) := ⟨_, _, rfl⟩
  obtain ⟨g3, s3, h3⟩ : ∃ g s, numP s2 = (g, s) := ⟨_, _, rfl⟩
  obtain ⟨g4, s4, h4⟩ : ∃ g s, numP s3 = (g, s) := ⟨_, _, rfl⟩
  obtain ⟨g5, s5, h5⟩ : ∃ g s, numP s4 = (g, s) := ⟨_, _, rfl⟩
  obtain ⟨T, hT⟩ : ∃ T, tabsQ 4096 g5 s5 [] = T := ⟨_, rfl⟩
  have hpv : parseQ l = (⟨g1, g2, g3, g4, T.1⟩, T.2) := by
    unfold parseQ
    simp only
    rw [h1]
    simp only
    rw [h2]
    simp only
    rw [h3]
    simp only
    rw [h4]
    simp only
    rw [h5]
    simp only
    rw [hT]
  have hb5 := numP_bd s4
  rw [h5] at hb5
  obtain ⟨hg1, hg2⟩ := hb5
  simp only at hg1 hg2
  obtain ⟨rb, hrb⟩ : ∃ rb, w.heap.size + 1 = rb := ⟨_, rfl⟩
  obtain ⟨vb, hvb⟩ : ∃ vb, rb + 1 = vb := ⟨_, rfl⟩
  have hrs : RtAt (((w.alloc (.cells #[.int .i64 0, .int .i64 0, .int .i64 0, .int .i64 0, .slice none 0 0] 30)).alloc (.cells #[.slice A n c, .bool false] 185)).alloc (.cells #[.int .i64 0, .int .i64 0, .int .i64 0, .int .i64 0, .slice none 0 0] 30)) rb ⟨l, false⟩ A n c := by
    rw [← hrb]
    refine ⟨?_, ((h.alloc _).alloc _).alloc _, hnc, hcm, fun h0 b hb e => ?_, hn⟩
    · have := (Blk.new (w.alloc (.cells #[.int .i64 0, .int .i64 0, .int .i64 0, .int .i64 0, .slice none 0 0] 30)) 185 #[.slice A n c, .bool false]).alloc (.cells #[.int .i64 0, .int .i64 0, .int .i64 0, .int .i64 0, .slice none 0 0] 30)
      rw [World.size_alloc] at this
      exact this
    · obtain ⟨b', hb', hl⟩ := h.lt h0
      rw [hb] at hb'
      cases hb'
      omega
  have hoff0 : 0 < n → ∀ b, blkOf A = some b → b ≠ vb := fun h0 b hb e => by
    obtain ⟨b', hb', hl⟩ := h.lt h0
    rw [hb] at hb'
    cases hb'
    omega
  have hrz : Blk (((w.alloc (.cells #[.int .i64 0, .int .i64 0, .int .i64 0, .int .i64 0, .slice none 0 0] 30)).alloc (.cells #[.slice A n c, .bool false] 185)).alloc (.cells #[.int .i64 0, .int .i64 0, .int .i64 0, .int .i64 0, .slice none 0 0] 30)) w.heap.size 30 #[.int .i64 0, .int .i64 0, .int .i64 0, .int .i64 0, .slice none 0 0] := ((Blk.new _ _ _).alloc _).alloc _
  have hvz : Blk (((w.alloc (.cells #[.int .i64 0, .int .i64 0, .int .i64 0, .int .i64 0, .slice none 0 0] 30)).alloc (.cells #[.slice A n c, .bool false] 185)).alloc (.cells #[.int .i64 0, .int .i64 0, .int .i64 0, .int .i64 0, .slice none 0 0] 30)) vb 30 #[.int .i64 0, .int .i64 0, .int .i64 0, .int .i64 0, .slice none 0 0] := by
    have := Blk.new ((w.alloc (.cells #[.int .i64 0, .int .i64 0, .int .i64 0, .int .i64 0, .slice none 0 0] 30)).alloc (.cells #[.slice A n c, .bool false] 185)) 30 #[.int .i64 0, .int .i64 0, .int .i64 0, .int .i64 0, .slice none 0 0]
    rw [World.size_alloc, World.size_alloc, hrb, hvb] at this
    exact this
  have hm0 : Mod Non w (((w.alloc (.cells #[.int .i64 0, .int .i64 0, .int .i64 0, .int .i64 0, .slice none 0 0] 30)).alloc (.cells #[.slice A n c, .bool false] 185)).alloc (.cells #[.int .i64 0, .int .i64 0, .int .i64 0, .int .i64 0, .slice none 0 0] 30)) := (((Mod.refl Non w).alloc _).alloc _).alloc _
  have hs0 : vb < (((w.alloc (.cells #[.int .i64 0, .int .i64 0, .int .i64 0, .int .i64 0, .slice none 0 0] 30)).alloc (.cells #[.slice A n c, .bool false] 185)).alloc (.cells #[.int .i64 0, .int .i64 0, .int .i64 0, .int .i64 0, .slice none 0 0] 30)).heap.size := hvz.lt
  have HRS := Lib.hid hrs
  have HRZ := Lib.hid hrz
  have HV0 := Lib.hid hvz
  have HM0 := Lib.hid hm0
  have HS0 := Lib.hid hs0
  have H0 := Lib.hid h
  have HPV := Lib.hid hpv
  have HT := Lib.hid hT
  have H1 := Lib.hid h1
  have H2 := Lib.hid h2
  have H3 := Lib.hid h3
  have H4 := Lib.hid h4
  have H5 := Lib.hid h5
  have hnum : ∀ s g s', numP s = (g, s') → ∀ rb A n c W, RtAt W rb s A n c → Calls Tryz.prog 141 #[.pointer (some ⟨rb, 0, none⟩)] W (RtPost rb s' (.int .i64 g) W) := fun s g s' hh rb A n c W hW => by
    have := numQ_any rb s A n c W hW
    rw [hh] at this
    exact this
  have HNUM := Lib.hid hnum
  have htxt : ∀ s g s', textP s = (g, s') → ∀ rb A n c W, RtAt W rb s A n c → Calls Tryz.prog 142 #[.pointer (some ⟨rb, 0, none⟩)] W (fun e w' => ∃ T ct, e = .returned (.slice T g.length ct) ∧ Rd w' T g.length (by8 g) ∧ g.length ≤ ct ∧ ct ≤ 9223372036854775807 ∧ (∀ b, blkOf T = some b → W.heap.size ≤ b) ∧ ∃ A n c, RtAt w' rb s' A n c ∧ Mod (fun k => k = rb) W w' ∧ (0 < n → ∀ b, blkOf A = some b → W.heap.size ≤ b)) := fun s g s' hh rb A n c W hW => by
    have := textQ_any rb s A n c W hW
    unfold TyPost at this
    rw [hh] at this
    exact this
  have HTXT := Lib.hid htxt
  have hrv : rb < vb := by omega
  have hw0 : w.heap.size < rb := by omega
  clear h h1 h2 h3 h4 h5 hT hpv hrs hrz hvz hm0 hnum htxt hoff0 hs0
  go_enter Tryz.func108, Tryz.ntmps108
  go_wp2_with fail
  have HRB := Lib.hid hrb
  have HVB := Lib.hid hvb
  clear hrb hvb
  refine (HNUM.out _ _ _ H1.out _ _ _ _ _ HRS.out).mono ?_
  rintro e w1 ⟨rfl, A1, n1, c1, hr1, hm1, hf1⟩
  have hv1 := HV0.out.mod hm1 (by omega)
  have hs1 : vb < w1.heap.size := hv1.lt
  have q0 : w1.cell? ⟨vb, 0, none⟩ = some (.int .i64 0) := hv1.cell 0
  have q1 := hv1.frozen 0
  have hst1 : Mod (fun k => k = vb) w1 (w1.setCell ⟨vb, 0, none⟩ (.int .i64 g1)) := (Mod.refl _ _).set1 0 _
  have HV1 : Hid (Blk (w1.setCell ⟨vb, 0, none⟩ (.int .i64 g1)) vb 30 #[.int .i64 g1, .int .i64 0, .int .i64 0, .int .i64 0, .slice none 0 0]) := hv1.set_ 0 (.int .i64 g1)
  have HR1 := Lib.hid (hr1.mod hst1 (by omega) fun h0 b hb e => by have := hf1 h0 b hb; have := HS0.out; omega)
  have HM1 := Lib.hid ((HM0.out.trans hm1 fun k hk => .inr (by omega)).trans hst1 fun k hk => .inr (by omega))
  have HRZ1 := Lib.hid ((HRZ.out.mod hm1 (by omega)).mod hst1 (by omega))
  have HS1 : Hid (vb < (w1.setCell ⟨vb, 0, none⟩ (.int .i64 g1)).heap.size) := HV1.out.lt
  clear hv1 hs1 hr1 hm1 hf1 hst1
  go_wp2_with fail
  clear q0 q1
  refine (HNUM.out _ _ _ H2.out _ _ _ _ _ HR1.out).mono ?_
  rintro e w2 ⟨rfl, A2, n2, c2, hr2, hm2, hf2⟩
  have hv2 := HV1.out.mod hm2 (by omega)
  have hs2 : vb < w2.heap.size := hv2.lt
  have q0 : w2.cell? ⟨vb, 1, none⟩ = some (.int .i64 0) := hv2.cell 1
  have q1 := hv2.frozen 1
  have hst2 : Mod (fun k => k = vb) w2 (w2.setCell ⟨vb, 1, none⟩ (.int .i64 g2)) := (Mod.refl _ _).set1 1 _
  have HV2 : Hid (Blk (w2.setCell ⟨vb, 1, none⟩ (.int .i64 g2)) vb 30 #[.int .i64 g1, .int .i64 g2, .int .i64 0, .int .i64 0, .slice none 0 0]) := hv2.set_ 1 (.int .i64 g2)
  have HR2 := Lib.hid (hr2.mod hst2 (by omega) fun h0 b hb e => by have := hf2 h0 b hb; have := HS1.out; omega)
  have HM2 := Lib.hid ((HM1.out.trans hm2 fun k hk => .inr (by omega)).trans hst2 fun k hk => .inr (by omega))
  have HRZ2 := Lib.hid ((HRZ1.out.mod hm2 (by omega)).mod hst2 (by omega))
  have HS2 : Hid (vb < (w2.setCell ⟨vb, 1, none⟩ (.int .i64 g2)).heap.size) := HV2.out.lt
  clear hv2 hs2 hr2 hm2 hf2 hst2
  go_wp2_with fail
  clear q0 q1
  refine (HNUM.out _ _ _ H3.out _ _ _ _ _ HR2.out).mono ?_
  rintro e w3 ⟨rfl, A3, n3, c3, hr3, hm3, hf3⟩
  have hv3 := HV2.out.mod hm3 (by omega)
  have hs3 : vb < w3.heap.size := hv3.lt
  have q0 : w3.cell? ⟨vb, 2, none⟩ = some (.int .i64 0) := hv3.cell 2
  have q1 := hv3.frozen 2
  have hst3 : Mod (fun k => k = vb) w3 (w3.setCell ⟨vb, 2, none⟩ (.int .i64 g3)) := (Mod.refl _ _).set1 2 _
  have HV3 : Hid (Blk (w3.setCell ⟨vb, 2, none⟩ (.int .i64 g3)) vb 30 #[.int .i64 g1, .int .i64 g2, .int .i64 g3, .int .i64 0, .slice none 0 0]) := hv3.set_ 2 (.int .i64 g3)
  have HR3 := Lib.hid (hr3.mod hst3 (by omega) fun h0 b hb e => by have := hf3 h0 b hb; have := HS2.out; omega)
  have HM3 := Lib.hid ((HM2.out.trans hm3 fun k hk => .inr (by omega)).trans hst3 fun k hk => .inr (by omega))
  have HRZ3 := Lib.hid ((HRZ2.out.mod hm3 (by omega)).mod hst3 (by omega))
  have HS3 : Hid (vb < (w3.setCell ⟨vb, 2, none⟩ (.int .i64 g3)).heap.size) := HV3.out.lt
  clear hv3 hs3 hr3 hm3 hf3 hst3
  go_wp2_with fail
  clear q0 q1
  refine (HNUM.out _ _ _ H4.out _ _ _ _ _ HR3.out).mono ?_
  rintro e w4 ⟨rfl, A4, n4, c4, hr4, hm4, hf4⟩
  have hv4 := HV3.out.mod hm4 (by omega)
  have hs4 : vb < w4.heap.size := hv4.lt
  have q0 : w4.cell? ⟨vb, 3, none⟩ = some (.int .i64 0) := hv4.cell 3
  have q1 := hv4.frozen 3
  have hst4 : Mod (fun k => k = vb) w4 (w4.setCell ⟨vb, 3, none⟩ (.int .i64 g4)) := (Mod.refl _ _).set1 3 _
  have HV4 : Hid (Blk (w4.setCell ⟨vb, 3, none⟩ (.int .i64 g4)) vb 30 #[.int .i64 g1, .int .i64 g2, .int .i64 g3, .int .i64 g4, .slice none 0 0]) := hv4.set_ 3 (.int .i64 g4)
  have HR4 := Lib.hid (hr4.mod hst4 (by omega) fun h0 b hb e => by have := hf4 h0 b hb; have := HS3.out; omega)
  have HM4 := Lib.hid ((HM3.out.trans hm4 fun k hk => .inr (by omega)).trans hst4 fun k hk => .inr (by omega))
  have HRZ4 := Lib.hid ((HRZ3.out.mod hm4 (by omega)).mod hst4 (by omega))
  have HS4 : Hid (vb < (w4.setCell ⟨vb, 3, none⟩ (.int .i64 g4)).heap.size) := HV4.out.lt
  clear hv4 hs4 hr4 hm4 hf4 hst4
  go_wp2_with fail
  clear q0 q1
  refine (HNUM.out _ _ _ H5.out _ _ _ _ _ HR4.out).mono ?_
  rintro e w5 ⟨rfl, A5, n5, c5, hr5, hm5, hf5⟩
  have hv5 := HV4.out.mod hm5 (by omega)
  have hs5 : vb < w5.heap.size := hv5.lt
  have HRZ5 := Lib.hid (HRZ4.out.mod hm5 (by omega))
  have HM5 := Lib.hid (HM4.out.trans hm5 fun k hk => .inr (by omega))
  have HR5 := Lib.hid hr5
  have hp0 : DqM w5 rb vb g1 g2 g3 g4 T 0 g5 w5 none 0 [] s5 A5 n5 c5 :=
    ⟨Mod.refl _ _, hv5, hr5, World.ownsRow_nil _ _ _ _, rfl, (fun m hm => by cases hm), HT.out⟩
  have HP0 := Lib.hid hp0
  have HVL := Lib.hid hs5
  clear hp0 hv5 hm5 hr5 hf5
  go_wp2_with fail
  go_loopw [7] (fun i wr => ∃ (k : Nat) (Av : Option Addr) (cv : Nat) (ms : List Mw) (s : Rs) (Ar : Option Addr) (nr cr : Nat), i = .int .i64 k ∧ k ≤ 4096 ∧ Hid (DqM w5 rb vb g1 g2 g3 g4 T k g5 wr Av cv ms s Ar nr cr)) (fun i _ => 4096 - (intOf i).toNat)
  case atStart => exact ⟨0, none, 0, [], s5, A5, n5, c5, rfl, by omega, HP0.out⟩
  case round =>
    obtain ⟨k, Av, cv, ms, s, Ar, nr, cr, rfl, hk, HP⟩ := hrel
    rename World => wr
    have hlv : ∀ b, blkOf Av = some b → w5.heap.size ≤ b ∧ b < wr.heap.size := fun b hb => by
      have := HP.out.own.lt b (by rw [own_blk]; exact hb)
      exact this
    have HLV := Lib.hid hlv
    have hw5r := HP.out.mod.size
    have HVBK := Lib.hid HP.out.vbk
    have hsz5 : vb < w5.heap.size := HVL.out
    clear hlv
    by_cases hcond : (k : Int) < g5 ∧ k < 4096 ∧ s.bad = false
    · obtain ⟨hc1, hc2, hc3⟩ := hcond
      have r1 : wr.cell? ⟨rb, 1, none⟩ = some (.bool false) := by rw [← hc3]; exact HP.out.rs.blk.cell 1
      have i0 : decide ((k : Int) < g5) = true := decide_eq_true hc1
      have i1 : (k : Int) < 4096 := by omega
      obtain ⟨a1, t1, e1⟩ : ∃ g t, numP s = (g, t) := ⟨_, _, rfl⟩
      obtain ⟨a2, t2, e2⟩ : ∃ g t, numP t1 = (g, t) := ⟨_, _, rfl⟩
      obtain ⟨a3, t3, e3⟩ : ∃ g t, numP t2 = (g, t) := ⟨_, _, rfl⟩
      obtain ⟨a4, t4, e4⟩ : ∃ g t, textP t3 = (g, t) := ⟨_, _, rfl⟩
      obtain ⟨a5, t5, e5⟩ : ∃ g t, textP t4 = (g, t) := ⟨_, _, rfl⟩
      have hmeta : metaP s = (⟨a1, a2, a3, a4, a5⟩, t5) := by
        unfold metaP
        simp only
        rw [e1]
        simp only
        rw [e2]
        simp only
        rw [e3]
        simp only
        rw [e4]
        simp only
        rw [e5]
      have htb : tabsQ (4096 - (k + 1)) g5 t5 (ms.map (·.m) ++ [⟨a1, a2, a3, a4, a5⟩]) = T := by
        have := HP.out.tabs
        rw [show 4096 - k = (4096 - (k + 1)) + 1 by omega, tabsQ, if_pos ⟨by rw [List.length_map, HP.out.ln]; exact hc1, hc3⟩, hmeta] at this
        exact this
      have HTB := Lib.hid htb
      have E1 := Lib.hid e1
      have E2 := Lib.hid e2
      have E3 := Lib.hid e3
      have E4 := Lib.hid e4
      have E5 := Lib.hid e5
      have hma : Mod Non wr (wr.alloc (.cells #[.int .i64 0, .int .i64 0, .int .i64 0, .slice none 0 0, .slice none 0 0] 62)) := (Mod.refl Non wr).alloc _
      have Y0 : Hid (Mod (fun i => i = rb) wr (wr.alloc (.cells #[.int .i64 0, .int .i64 0, .int .i64 0, .slice none 0 0, .slice none 0 0] 62))) := hma.non
      have X0 := Lib.hid (HP.out.rs.mod hma (fun h => h) (fun _ => Off.non _))
      have B0 := Lib.hid (Blk.new wr 62 #[.int .i64 0, .int .i64 0, .int .i64 0, .slice none 0 0, .slice none 0 0])
      have S0 : Hid (wr.heap.size < (wr.alloc (.cells #[.int .i64 0, .int .i64 0, .int .i64 0, .slice none 0 0, .slice none 0 0] 62)).heap.size) := by show _ < _; rw [World.size_alloc]; omega
      have hrw : rb < wr.heap.size := HP.out.rs.blk.lt
      clear hmeta htb e1 e2 e3 e4 e5 hma hc3
      go_wp2_with fail
      refine (HNUM.out _ _ _ E1.out rb _ _ _ _ X0.out).mono ?_
      rintro e u1 ⟨rfl, P1, m1, d1, x1, y1, yf1⟩
      have b1 := B0.out.mod y1 (by omega)
      have q0 : u1.cell? ⟨wr.heap.size, 0, none⟩ = some (.int .i64 0) := b1.cell 0
      have q1 := b1.frozen 0
      have st1 : Mod (fun k => k = wr.heap.size) u1 (u1.setCell ⟨wr.heap.size, 0, none⟩ (.int .i64 a1)) := (Mod.refl _ _).set1 0 _
      have B1 : Hid (Blk (u1.setCell ⟨wr.heap.size, 0, none⟩ (.int .i64 a1)) wr.heap.size 62 #[.int .i64 a1, .int .i64 0, .int .i64 0, .slice none 0 0, .slice none 0 0]) := b1.set_ 0 (.int .i64 a1)
      have hof1 : 0 < m1 → ∀ b, blkOf P1 = some b → wr.heap.size < b := fun h0 b hb => by have := yf1 h0 b hb; have := S0.out; omega
      have X1 := Lib.hid (x1.mod st1 (by omega) fun h0 b hb e => by have := hof1 h0 b hb; omega)
      have Y1 := Lib.hid ((Y0.out.trans y1 fun k hk => .inl hk).trans st1 fun k hk => .inr (by omega))
      have S1 : Hid (wr.heap.size < (u1.setCell ⟨wr.heap.size, 0, none⟩ (.int .i64 a1)).heap.size) := B1.out.lt
      clear b1 st1 x1 y1 yf1 hof1
      go_wp2_with fail
      clear q0 q1
      refine (HNUM.out _ _ _ E2.out rb _ _ _ _ X1.out).mono ?_
      rintro e u2 ⟨rfl, P2, m2, d2, x2, y2, yf2⟩
      have b2 := B1.out.mod y2 (by omega)
      have q0 : u2.cell? ⟨wr.heap.size, 1, none⟩ = some (.int .i64 0) := b2.cell 1
      have q1 := b2.frozen 1
      have st2 : Mod (fun k => k = wr.heap.size) u2 (u2.setCell ⟨wr.heap.size, 1, none⟩ (.int .i64 a2)) := (Mod.refl _ _).set1 1 _
      have B2 : Hid (Blk (u2.setCell ⟨wr.heap.size, 1, none⟩ (.int .i64 a2)) wr.heap.size 62 #[.int .i64 a1, .int .i64 a2, .int .i64 0, .slice none 0 0, .slice none 0 0]) := b2.set_ 1 (.int .i64 a2)
      have hof2 : 0 < m2 → ∀ b, blkOf P2 = some b → wr.heap.size < b := fun h0 b hb => by have := yf2 h0 b hb; have := S1.out; omega
      have X2 := Lib.hid (x2.mod st2 (by omega) fun h0 b hb e => by have := hof2 h0 b hb; omega)
      have Y2 := Lib.hid ((Y1.out.trans y2 fun k hk => .inl hk).trans st2 fun k hk => .inr (by omega))
      have S2 : Hid (wr.heap.size < (u2.setCell ⟨wr.heap.size, 1, none⟩ (.int .i64 a2)).heap.size) := B2.out.lt
      clear b2 st2 x2 y2 yf2 hof2
      go_wp2_with fail
      clear q0 q1
      refine (HNUM.out _ _ _ E3.out rb _ _ _ _ X2.out).mono ?_
      rintro e u3 ⟨rfl, P3, m3, d3, x3, y3, yf3⟩
      have b3 := B2.out.mod y3 (by omega)
      have q0 : u3.cell? ⟨wr.heap.size, 2, none⟩ = some (.int .i64 0) := b3.cell 2
      have q1 := b3.frozen 2
      have st3 : Mod (fun k => k = wr.heap.size) u3 (u3.setCell ⟨wr.heap.size, 2, none⟩ (.int .i64 a3)) := (Mod.refl _ _).set1 2 _
      have B3 : Hid (Blk (u3.setCell ⟨wr.heap.size, 2, none⟩ (.int .i64 a3)) wr.heap.size 62 #[.int .i64 a1, .int .i64 a2, .int .i64 a3, .slice none 0 0, .slice none 0 0]) := b3.set_ 2 (.int .i64 a3)
      have hof3 : 0 < m3 → ∀ b, blkOf P3 = some b → wr.heap.size < b := fun h0 b hb => by have := yf3 h0 b hb; have := S2.out; omega
      have X3 := Lib.hid (x3.mod st3 (by omega) fun h0 b hb e => by have := hof3 h0 b hb; omega)
      have Y3 := Lib.hid ((Y2.out.trans y3 fun k hk => .inl hk).trans st3 fun k hk => .inr (by omega))
      have S3 : Hid (wr.heap.size < (u3.setCell ⟨wr.heap.size, 2, none⟩ (.int .i64 a3)).heap.size) := B3.out.lt
      clear b3 st3 x3 y3 yf3 hof3
      go_wp2_with fail
      clear q0 q1
      refine (HTXT.out _ _ _ E4.out rb _ _ _ _ X3.out).mono ?_
      rintro e u4 ⟨T4, q4, rfl, za4, zb4, zc4, zd4, P4, m4, d4, x4, y4, yf4⟩
      have b4 := B3.out.mod y4 (by omega)
      have q0 : u4.cell? ⟨wr.heap.size, 3, none⟩ = some (.slice none 0 0) := b4.cell 3
      have q1 := b4.frozen 3
      have st4 : Mod (fun k => k = wr.heap.size) u4 (u4.setCell ⟨wr.heap.size, 3, none⟩ (.slice T4 a4.length q4)) := (Mod.refl _ _).set1 3 _
      have B4 : Hid (Blk (u4.setCell ⟨wr.heap.size, 3, none⟩ (.slice T4 a4.length q4)) wr.heap.size 62 #[.int .i64 a1, .int .i64 a2, .int .i64 a3, .slice T4 a4.length q4, .slice none 0 0]) := b4.set_ 3 (.slice T4 a4.length q4)
      have hof4 : 0 < m4 → ∀ b, blkOf P4 = some b → wr.heap.size < b := fun h0 b hb => by have := yf4 h0 b hb; have := S3.out; omega
      have X4 := Lib.hid (x4.mod st4 (by omega) fun h0 b hb e => by have := hof4 h0 b hb; omega)
      have Y4 := Lib.hid ((Y3.out.trans y4 fun k hk => .inl hk).trans st4 fun k hk => .inr (by omega))
      have S4 : Hid (wr.heap.size < (u4.setCell ⟨wr.heap.size, 3, none⟩ (.slice T4 a4.length q4)).heap.size) := B4.out.lt
      have Z4 : Hid (Rd (u4.setCell ⟨wr.heap.size, 3, none⟩ (.slice T4 a4.length q4)) T4 a4.length (by8 a4) ∧ a4.length ≤ q4 ∧ q4 ≤ 9223372036854775807 ∧ ∀ b, blkOf T4 = some b → wr.heap.size < b) :=
        ⟨za4.mod st4 fun h0 b hb e => by have := zd4 b hb; have := S3.out; omega, zb4, zc4, fun b hb => by have := zd4 b hb; have := S3.out; omega⟩
      clear b4 st4 x4 y4 yf4 hof4 za4 zb4 zc4 zd4
      go_wp2_with fail
      clear q0 q1
      refine (HTXT.out _ _ _ E5.out rb _ _ _ _ X4.out).mono ?_
      rintro e u5 ⟨T5, q5, rfl, za5, zb5, zc5, zd5, P5, m5, d5, x5, y5, yf5⟩
      have b5 := B4.out.mod y5 (by omega)
      have q0 : u5.cell? ⟨wr.heap.size, 4, none⟩ = some (.slice none 0 0) := b5.cell 4
      have q1 := b5.frozen 4
      have st5 : Mod (fun k => k = wr.heap.size) u5 (u5.setCell ⟨wr.heap.size, 4, none⟩ (.slice T5 a5.length q5)) := (Mod.refl _ _).set1 4 _
      have B5 : Hid (Blk (u5.setCell ⟨wr.heap.size, 4, none⟩ (.slice T5 a5.length q5)) wr.heap.size 62 #[.int .i64 a1, .int .i64 a2, .int .i64 a3, .slice T4 a4.length q4, .slice T5 a5.length q5]) := b5.set_ 4 (.slice T5 a5.length q5)
      have hof5 : 0 < m5 → ∀ b, blkOf P5 = some b → wr.heap.size < b := fun h0 b hb => by have := yf5 h0 b hb; have := S4.out; omega
      have X5 := Lib.hid (x5.mod st5 (by omega) fun h0 b hb e => by have := hof5 h0 b hb; omega)
      have Y5 := Lib.hid ((Y4.out.trans y5 fun k hk => .inl hk).trans st5 fun k hk => .inr (by omega))
      have S5 : Hid (wr.heap.size < (u5.setCell ⟨wr.heap.size, 4, none⟩ (.slice T5 a5.length q5)).heap.size) := B5.out.lt
      have Z4' : Hid (Rd (u5.setCell ⟨wr.heap.size, 4, none⟩ (.slice T5 a5.length q5)) T4 a4.length (by8 a4) ∧ a4.length ≤ q4 ∧ q4 ≤ 9223372036854775807 ∧ ∀ b, blkOf T4 = some b → wr.heap.size ≤ b) :=
        ⟨(Z4.out.1.mod y5 fun h0 b hb e => by have := Z4.out.2.2.2 b hb; omega).mod st5 fun h0 b hb e => by have := Z4.out.2.2.2 b hb; omega, Z4.out.2.1, Z4.out.2.2.1, fun b hb => by have := Z4.out.2.2.2 b hb; omega⟩
      have Z5 : Hid (Rd (u5.setCell ⟨wr.heap.size, 4, none⟩ (.slice T5 a5.length q5)) T5 a5.length (by8 a5) ∧ a5.length ≤ q5 ∧ q5 ≤ 9223372036854775807 ∧ ∀ b, blkOf T5 = some b → wr.heap.size ≤ b) :=
        ⟨za5.mod st5 fun h0 b hb e => by have := zd5 b hb; have := S4.out; omega, zb5, zc5, fun b hb => by have := zd5 b hb; have := S4.out; omega⟩
      have YF : Hid (0 < m5 → ∀ b, blkOf P5 = some b → wr.heap.size ≤ b) := fun h0 b hb => by have := hof5 h0 b hb; omega
      have hk4 : (u5.setCell ⟨wr.heap.size, 4, none⟩ (.slice T5 a5.length q5)).cell? ⟨vb, 4, none⟩ = some (.slice Av k cv) := by
        have := (HVBK.out.mod Y5.out (by omega)).cell 4
        exact this
      have hk5 := B5.out.cell 0
      have hk6 := B5.out.cell 1
      have hk7 := B5.out.cell 2
      have hk8 := B5.out.cell 3
      have hk9 := B5.out.cell 4
      have hwz := S5.out
      have hko := own_mod HP.out.own Y5.out fun b hb e => by
        rw [own_blk] at hb
        have := (HLV.out _ hb).1
        omega
      have HKO := Lib.hid hko
      clear b5 st5 x5 y5 yf5 hof5 za5 zb5 zc5 zd5 hko
      have hone : Rd ((u5.setCell ⟨wr.heap.size, 4, none⟩ (.slice T5 a5.length q5)).alloc (.cells #[.int .i64 a1, .int .i64 a2, .int .i64 a3, .slice T4 a4.length q4, .slice T5 a5.length q5] 62)) (some ⟨u5.heap.size, 0, none⟩) (1 * 5) (Mw.cells ⟨⟨a1, a2, a3, a4, a5⟩, T4, q4, T5, q5⟩) := by
        have := one_meta (u5.setCell ⟨wr.heap.size, 4, none⟩ (.slice T5 a5.length q5)) 62 ⟨⟨a1, a2, a3, a4, a5⟩, T4, q4, T5, q5⟩
        rwa [World.size_setCell] at this
      have HONE := Lib.hid hone
      have hsw : w5.heap.size ≤ ((u5.setCell ⟨wr.heap.size, 4, none⟩ (.slice T5 a5.length q5)).alloc (.cells #[.int .i64 a1, .int .i64 a2, .int .i64 a3, .slice T4 a4.length q4, .slice T5 a5.length q5] 62)).heap.size := by
        have := Y5.out.size
        rw [World.size_alloc]
        omega
      have HSW := Lib.hid hsw
      have hmq : ∀ qw, ((u5.setCell ⟨wr.heap.size, 4, none⟩ (.slice T5 a5.length q5)).alloc (.cells #[.int .i64 a1, .int .i64 a2, .int .i64 a3, .slice T4 a4.length q4, .slice T5 a5.length q5] 62)).grownBy qw (Value.slice Av k cv).ownBlock → qw.cell? ⟨vb, 4, none⟩ = some (.slice Av k cv) ∧ qw.frozen? ⟨vb, 4, none⟩ = false := fun qw hg => by
        have h1 : Mod (fun i => blkOf Av = some i) (u5.setCell ⟨wr.heap.size, 4, none⟩ (.slice T5 a5.length q5)) qw := ((Mod.refl _ (u5.setCell ⟨wr.heap.size, 4, none⟩ (.slice T5 a5.length q5))).alloc _).trans (Mod.of_grown (S := fun i => blkOf Av = some i) hg fun i h => by rw [own_blk] at h; exact h) fun i h => .inl h
        have h2 := (HVBK.out.mod Y5.out (by omega)).mod h1 fun h => by have := (HLV.out _ h).1; omega
        exact ⟨h2.cell 4, h2.frozen 4⟩
      have HMQ := Lib.hid hmq
      clear hone hsw hmq
      go_wp2_with (first
        | (at_builtin
           refine wpList_app5 Tryz.underlying28 rowMr _ rfl (.tmp 60) (.tmp 62) rfl w5.heap.size (.slice Av k cv) k ms rfl (HKO.out.alloc _) u5.heap.size 1 ⟨⟨a1, a2, a3, a4, a5⟩, T4, q4, T5, q5⟩ rfl HONE.out (by omega) HSW.out ?_
           intro qA qc qw qhc qhcm qown qg qat
           obtain ⟨hq1, hq2⟩ := HMQ.out qw qg
           have QN := Lib.hid (dq_next HP.out hrv hsz5 Y5.out (x := ⟨⟨a1, a2, a3, a4, a5⟩, T4, q4, T5, q5⟩) Z4'.out Z5.out X5.out YF.out qg qat qown HTB.out)
           clear qown qg qat))
      clear hk4 hk5 hk6 hk7 hk8 hk9 hq1 hq2
      go_round
      case rel => exact ⟨k + 1, qA, qc, _, _, _, _, _, by go_num, by omega, QN.out⟩
      case measure => simp [intOf]; omega
    · have hT2 : T = (ms.map (·.m), s) := by
        have := HP.out.tabs
        rcases Nat.eq_zero_or_pos (4096 - k) with h0 | h0
        · rw [h0, tabsQ] at this
          exact this.symm
        · obtain ⟨f, hf⟩ : ∃ f, 4096 - k = f + 1 := ⟨4096 - k - 1, by omega⟩
          rw [hf, tabsQ, if_neg (by rw [List.length_map, HP.out.ln]; exact fun h => hcond ⟨h.1, by omega, h.2⟩)] at this
          exact this.symm
      obtain ⟨V, hV⟩ : ∃ V, (⟨g1, g2, g3, g4, ms.map (·.m)⟩ : Vs) = V := ⟨_, rfl⟩
      have hpv2 : parseQ l = (V, s) := by rw [HPV.out, hT2, ← hV]
      have hvm := fun w' (hm : Mod (fun i => i ≤ w.heap.size) wr w') => dq_vw HP.out hsz5 (S := fun i => i ≤ w.heap.size) (fun i h => by omega) hm
      have hvw : VwOk wr ⟨g1, g2, g3, g4, Av, cv, ms⟩ := hvm wr (Mod.refl _ _)
      have hen : Calls Tryz.prog 143 #[.agg #[.int .i64 g1, .int .i64 g2, .int .i64 g3, .int .i64 g4, .slice Av k cv]] wr (EnPost V wr) := by
        have := encodeR_any ⟨g1, g2, g3, g4, Av, cv, ms⟩ wr hvw
        unfold Vw.val Vw.v at this
        simp only at this
        rw [HP.out.ln, hV] at this
        exact this
      have hz : Blk wr w.heap.size 30 #[.int .i64 0, .int .i64 0, .int .i64 0, .int .i64 0, .slice none 0 0] := HRZ5.out.mod HP.out.mod (by omega)
      have HMW := Lib.hid (HM5.out.trans HP.out.mod fun i h => .inr (by omega))
      have hall : ∀ W, Mod Non wr W → Blk W w.heap.size 30 #[.int .i64 0, .int .i64 0, .int .i64 0, .int .i64 0, .slice none 0 0] ∧ Blk W vb 30 #[.int .i64 g1, .int .i64 g2, .int .i64 g3, .int .i64 g4, .slice Av k cv] := fun W hW =>
        ⟨hz.mod hW fun h => h, HP.out.vbk.mod hW fun h => h⟩
      have HALL := Lib.hid hall
      have hno : (¬ (s.bad = false ∧ checkV V = true ∧ encV V = l)) → ∀ w', Mod Non w w' → DePost l w (.returned (.tuple #[.agg #[.int .i64 0, .int .i64 0, .int .i64 0, .int .i64 0, .slice none 0 0], .int .i64 2])) w' := fun hh w' hw => by
        unfold DePost
        rw [← decQ_eq]
        unfold decQ
        rw [hpv2, if_neg hh]
        exact ⟨rfl, hw⟩
      have hyes : s.bad = false → checkV V = true → encV V = l → ∀ w', Mod (fun i => i = w.heap.size) wr w' → Mod Non w w' → DePost l w (.returned (.tuple #[.agg #[.int .i64 g1, .int .i64 g2, .int .i64 g3, .int .i64 g4, .slice Av k cv], .int .i64 0])) w' := fun h1 h2 h3 w' hw hw2 => by
        unfold DePost
        rw [← decQ_eq]
        unfold decQ
        rw [hpv2, if_pos ⟨h1, h2, h3⟩]
        refine ⟨⟨g1, g2, g3, g4, Av, cv, ms⟩, hV, ?_, hvm w' (hw.mono fun i h => by omega), fun S w'' hS hm => hvm w'' ((hw.mono fun i h => by omega).trans hm fun i h => .inl (by have := hS i h; omega)), hw2⟩
        unfold Vw.val
        simp only
        rw [HP.out.ln]
      have HNO := Lib.hid hno
      have HYES := Lib.hid hyes
      have HEN := Lib.hid hen
      have r1 : wr.cell? ⟨rb, 1, none⟩ = some (.bool s.bad) := HP.out.rs.blk.cell 1
      have v0 : wr.cell? ⟨vb, 0, none⟩ = some (.int .i64 g1) := HP.out.vbk.cell 0
      have v1 : wr.cell? ⟨vb, 1, none⟩ = some (.int .i64 g2) := HP.out.vbk.cell 1
      have v2 : wr.cell? ⟨vb, 2, none⟩ = some (.int .i64 g3) := HP.out.vbk.cell 2
      have v3 : wr.cell? ⟨vb, 3, none⟩ = some (.int .i64 g4) := HP.out.vbk.cell 3
      have v4 : wr.cell? ⟨vb, 4, none⟩ = some (.slice Av k cv) := HP.out.vbk.cell 4
      obtain ⟨bd, hbq⟩ : ∃ bd, s.bad = bd := ⟨_, rfl⟩
      rw [hbq] at r1
      have HBQ := Lib.hid hbq
      have hc3 : decide ((k : Int) < g5) = false ∨ (decide ((k : Int) < g5) = true ∧ decide ((k : Int) < 4096) = false) ∨ (decide ((k : Int) < g5) = true ∧ decide ((k : Int) < 4096) = true ∧ bd = true) := by
        by_cases c1 : (k : Int) < g5
        · by_cases c2 : k < 4096
          · refine .inr (.inr ⟨decide_eq_true c1, decide_eq_true (by omega), ?_⟩)
            cases hb : bd
            · exact absurd ⟨c1, c2, by rw [hbq, hb]⟩ hcond
            · rfl
          · exact .inr (.inl ⟨decide_eq_true c1, decide_eq_false (by omega)⟩)
        · exact .inl (decide_eq_false c1)
      clear hcond hT2 hV hpv2 hvm hvw hen hz hall hno hyes hbq
      cases bd with
      | true =>
        have HN1 := Lib.hid (HNO.out (by rw [HBQ.out]; simp))
        obtain ⟨z0, z1⟩ := HALL.out wr (Mod.refl _ _)
        have HZ := Lib.hid z0
        have y00 : wr.cell? ⟨w.heap.size, 0, none⟩ = some (.int .i64 0) := z0.cell 0
        have f0 := z0.frozen 0
        have y01 : wr.cell? ⟨w.heap.size, 1, none⟩ = some (.int .i64 0) := z0.cell 1
        have f1 := z0.frozen 1
        have y02 : wr.cell? ⟨w.heap.size, 2, none⟩ = some (.int .i64 0) := z0.cell 2
        have f2 := z0.frozen 2
        have y03 : wr.cell? ⟨w.heap.size, 3, none⟩ = some (.int .i64 0) := z0.cell 3
        have f3 := z0.frozen 3
        have y04 : wr.cell? ⟨w.heap.size, 4, none⟩ = some (.slice none 0 0) := z0.cell 4
        have f4 := z0.frozen 4
        clear z0 z1
        rcases hc3 with q1 | ⟨q1, q2⟩ | ⟨q1, q2, -⟩
        all_goals
          go_wp2_with fail
          refine bodyPost_ret (results_rowtmp rfl _ _ w.heap.size 30 _ _ rfl (HZ.out.five _ _ _ _ _) Tryz.underlying30 rfl (by kernel_rfl) (.int .i64 2) rfl) rfl ?_
          exact HN1.out _ (set5 HMW.out _ _ _ _ _)
      | false =>
        have hb0 := HBQ.out
        rcases hc3 with q1 | ⟨q1, q2⟩ | ⟨_, _, q3⟩
        case inr.inr => cases q3
        all_goals
          by_cases hck : checkV V = true
          · have hen1 : Calls Tryz.prog 143 #[.agg #[.int .i64 g1, .int .i64 g2, .int .i64 g3, .int .i64 g4, .slice Av k cv]] wr (fun e w' => ∃ A c, e = .returned (.tuple #[.slice A (encV V).length c, .int .i64 0]) ∧ Rd w' A (encV V).length (by8 (encV V)) ∧ (encV V).length ≤ c ∧ c ≤ 9223372036854775807 ∧ Mod Non wr w') :=
              HEN.out.mono fun e w' h => by unfold EnPost at h; rw [if_pos hck] at h; exact h
            have HCK := Lib.hid hck
            obtain ⟨ln, hln⟩ : ∃ ln, (encV V).length = ln := ⟨_, rfl⟩
            rw [hln] at hen1
            have HEN2 := Lib.hid hen1
            obtain ⟨bq, hbq⟩ : ∃ bq, decide (encV V = l) = bq := ⟨_, rfl⟩
            have heq' : ∀ (EA : Option Addr) (ec : Nat) (W : World), Rd W EA ln (by8 (encV V)) → Rd W A n (by8 l) → Calls Tryz.prog 144 #[.slice EA ln ec, .slice A n c] W fun e w' => e = .returned (.bool bq) ∧ w' = W := fun EA ec W h1 h2 =>
              (sameQ_any EA A ln ec n c (encV V) l W h1 h2).mono fun e w' h => by rw [hbq] at h; exact h
            have HEQ := Lib.hid heq'
            have HQQ := Lib.hid hbq
            clear hen1 hck hln heq' hbq
            go_wp2_with fail
            refine HEN2.out.mono ?_
            rintro e w6 ⟨EA, ec, rfl, her, hec1, hec2, hem⟩
            obtain ⟨z0, z1⟩ := HALL.out w6 hem
            have HEM := Lib.hid (HMW.out.trans0 hem)
            have HW6 := Lib.hid hem
            have HZ := Lib.hid z0
            have HER := Lib.hid her
            have y00 : w6.cell? ⟨w.heap.size, 0, none⟩ = some (.int .i64 0) := z0.cell 0
            have f0 := z0.frozen 0
            have y01 : w6.cell? ⟨w.heap.size, 1, none⟩ = some (.int .i64 0) := z0.cell 1
            have f1 := z0.frozen 1
            have y02 : w6.cell? ⟨w.heap.size, 2, none⟩ = some (.int .i64 0) := z0.cell 2
            have f2 := z0.frozen 2
            have y03 : w6.cell? ⟨w.heap.size, 3, none⟩ = some (.int .i64 0) := z0.cell 3
            have f3 := z0.frozen 3
            have y04 : w6.cell? ⟨w.heap.size, 4, none⟩ = some (.slice none 0 0) := z0.cell 4
            have f4 := z0.frozen 4
            have x00 : w6.cell? ⟨vb, 0, none⟩ = some (.int .i64 g1) := z1.cell 0
            have x01 : w6.cell? ⟨vb, 1, none⟩ = some (.int .i64 g2) := z1.cell 1
            have x02 : w6.cell? ⟨vb, 2, none⟩ = some (.int .i64 g3) := z1.cell 2
            have x03 : w6.cell? ⟨vb, 3, none⟩ = some (.int .i64 g4) := z1.cell 3
            have x04 : w6.cell? ⟨vb, 4, none⟩ = some (.slice Av k cv) := z1.cell 4
            clear v0 v1 v2 v3 v4 r1 z1 z0 her hec1 hec2 hem
            go_wp2_with fail
            refine (HEQ.out EA ec w6 HER.out (H0.out.mod0 HEM.out)).mono ?_
            rintro e w7 ⟨rfl, rfl⟩
            cases bq with
            | true =>
              have HY1 := Lib.hid (HYES.out hb0 HCK.out (of_decide_eq_true HQQ.out))
              go_wp2_with fail
              refine bodyPost_ret (results_rowtmp rfl _ _ w.heap.size 30 _ _ rfl (HZ.out.five _ _ _ _ _) Tryz.underlying30 rfl (by kernel_rfl) (.int .i64 0) rfl) rfl ?_
              exact HY1.out _ (((((((Mod.refl (fun i => i = w.heap.size) wr).trans0 HW6.out).set1 0 _).set1 1 _).set1 2 _).set1 3 _).set1 4 _) (set5 HEM.out _ _ _ _ _)
            | false =>
              have HN1 := Lib.hid (HNO.out (fun h => of_decide_eq_false HQQ.out h.2.2))
              go_wp2_with fail
              refine bodyPost_ret (results_rowtmp rfl _ _ w.heap.size 30 _ _ rfl (HZ.out.five _ _ _ _ _) Tryz.underlying30 rfl (by kernel_rfl) (.int .i64 2) rfl) rfl ?_
              exact HN1.out _ (set5 HEM.out _ _ _ _ _)
          · have HN1 := Lib.hid (HNO.out (fun h => hck h.2.1))
            have hen2 : Calls Tryz.prog 143 #[.agg #[.int .i64 g1, .int .i64 g2, .int .i64 g3, .int .i64 g4, .slice Av k cv]] wr (fun e w' => e = .returned (.tuple #[.slice none 0 0, .int .i64 1]) ∧ Mod Non wr w') :=
              HEN.out.mono fun e w' h => by unfold EnPost at h; rw [if_neg hck] at h; exact h
            have HEN2 := Lib.hid hen2
            clear hen2 hck
            go_wp2_with fail
            refine HEN2.out.mono ?_
            rintro e w6 ⟨rfl, hem⟩
            obtain ⟨z0, z1⟩ := HALL.out w6 hem
            have HEM := Lib.hid (HMW.out.trans0 hem)
            have HZ := Lib.hid z0
            have y00 : w6.cell? ⟨w.heap.size, 0, none⟩ = some (.int .i64 0) := z0.cell 0
            have f0 := z0.frozen 0
            have y01 : w6.cell? ⟨w.heap.size, 1, none⟩ = some (.int .i64 0) := z0.cell 1
            have f1 := z0.frozen 1
            have y02 : w6.cell? ⟨w.heap.size, 2, none⟩ = some (.int .i64 0) := z0.cell 2
            have f2 := z0.frozen 2
            have y03 : w6.cell? ⟨w.heap.size, 3, none⟩ = some (.int .i64 0) := z0.cell 3
            have f3 := z0.frozen 3
            have y04 : w6.cell? ⟨w.heap.size, 4, none⟩ = some (.slice none 0 0) := z0.cell 4
            have f4 := z0.frozen 4
            clear v0 v1 v2 v3 v4 r1 z1 z0 hem
            go_wp2_with fail
            refine bodyPost_ret (results_rowtmp rfl _ _ w.heap.size 30 _ _ rfl (HZ.out.five _ _ _ _ _) Tryz.underlying30 rfl (by kernel_rfl) (.int .i64 2) rfl) rfl ?_
            exact HN1.out _ (set5 HEM.out _ _ _ _ _)

end Go.Proofs.YtdpjnpjmokncdaaGreatDoor
