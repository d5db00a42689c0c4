/- code.PutText, edit.nums. -/
import Derived.Test.YtdpjnpjmokncdaaGreatDoorB28
import Derived.Test.YtdpjnpjmokncdaaGreatDoorB09
import Derived.Lib.AppendStr
import Derived.Test.YtdpjnpjmokncdaaGreatDoorB15
import Derived.Deep.RegionHeld3
import Derived.Test.YtdpjnpjmokncdaaGreatDoorB23
namespace Go.Proofs.YtdpjnpjmokncdaaGreatDoor
open Go.RowKit

theorem strCells_by8 (s : ByteArray) : Lib.strCells s = by8 s.data.toList := by
  unfold Lib.strCells by8
  simp [b8]
theorem rd_new (w : World) (t : TypeId) (vs : List Value) : Rd (w.alloc (.cells vs.toArray t)) (some ⟨w.heap.size, 0, none⟩) vs.length vs := by
  refine ⟨rfl, fun _ => ⟨w.heap.size, 0, rfl, fun j u hu => ?_⟩⟩
  rw [Nat.zero_add]
  have := (Blk.new w t vs.toArray).cell j
  rw [this]
  simpa using hu

set_option maxRecDepth 100000 in
set_option maxHeartbeats 400000 in
/-- 'laid(b, s)' at a text. -/
theorem laidS_any (A : Option Addr) (n c : Nat) (l : List UInt8) (s : ByteArray) (w : World) (h : Rd w A n (by8 l)) (hn : n + s.size ≤ 140737488355328) :
    Calls Tryz.prog 165 #[.slice A n c, .string s] w fun e w' => ∃ A' c', e = .returned (.slice A' (n + s.size) c') ∧ w'.ownsRow w.heap.size 5 1 (.slice A' (n + s.size) c') (n + s.size) (by8 (l ++ s.data.toList)) ∧ n + s.size ≤ c' ∧ c' ≤ 9223372036854775807 ∧ Below w.heap.size w w' := by
  obtain ⟨i, hi, hz, h1, h2⟩ := bt.info
  have hmx : maxLen = 9223372036854775807 := rfl
  go_enter Tryz.func165, Tryz.ntmps165
  go_wp2_with (first
    | (go_at_call 65; refine (clone_any A n c l _ h (by omega)).mono ?_; rintro e w1 ⟨A1, c1, rfl, ho1, hb1⟩)
    | (at_builtin; refine Lib.wpList_append_own_string _ rfl (.tmp 6) (.tmp 7) 44 9 rfl w.heap.size 5 i Tryz.underlying44 Tryz.underlying9 hi hz h1 h2 (.slice A1 n c1) n (by8 l) rfl ho1 s rfl (by omega) (by omega) hb1.size ?_; intro v' w' hown' hg' hnil'))
  obtain ⟨A', c', rfl, hc1, hc2⟩ := own_slice hown'
  go_ret
  rw [strCells_by8, ← by8_append] at hown'
  exact ⟨A', c', rfl, hown', hc1, by omega, hb1.grown hg' hb1.size (fun j hj => (ho1.lt j hj).1)⟩

def textB (s : List UInt8) : List UInt8 := nB s.length ++ s
set_option maxRecDepth 100000 in
set_option maxHeartbeats 400000 in
theorem putText_any (A : Option Addr) (n c : Nat) (l : List UInt8) (s : ByteArray) (w : World) (h : Rd w A n (by8 l)) (hn : n + s.size ≤ 140737488351232) :
    Calls Tryz.prog 122 #[.slice A n c, .string s] w fun e w' => ∃ A' n' c', e = .returned (.slice A' n' c') ∧ n' = (l ++ textB s.data.toList).length ∧ Rd w' A' n' (by8 (l ++ textB s.data.toList)) ∧ n' ≤ c' ∧ c' ≤ 9223372036854775807 ∧ Mod Non w w' := by
  have hll : l.length = n := by simpa using h.1
  have hsz : s.data.toList.length = s.size := Array.length_toList
  have h9 := nB_len (s.size : Int)
  obtain ⟨R, hR⟩ : ∃ R, l ++ textB s.data.toList = R := ⟨_, rfl⟩
  have hRe : (l ++ nB (s.size : Int)) ++ s.data.toList = R := by rw [← hR]; unfold textB; rw [hsz, List.append_assoc]
  have hRl : n + (nB (s.size : Int)).length + s.size = R.length := by rw [← hRe]; simp [hll]; omega
  rw [hR]
  have hpn := putNum_any A n c l (s.size : Int) w h (by omega)
  obtain ⟨L, hL⟩ : ∃ L, nB (s.size : Int) = L := ⟨_, rfl⟩
  have hL2 : numB (clampN (s.size : Int)) = L := hL
  rw [hL2] at hpn
  rw [hL] at h9 hRe hRl
  have HPN := Lib.hid hpn
  have HRE := Lib.hid hRe
  have HRL := Lib.hid hRl
  clear hpn hL hL2 hR hRe hRl hsz h hll
  go_enter Tryz.func122, Tryz.ntmps122
  go_wp2_with fail
  refine HPN.out.mono ?_
  rintro e w1 ⟨A1, c1, rfl, ho1, hb1⟩
  have hr1 := Rd.of_own ho1
  have HR1 := Lib.hid hr1
  have HM1 := Lib.hid (Mod.of_below (S := Non) hb1)
  clear hr1 ho1 hb1
  go_wp2_with fail
  refine (laidS_any A1 (n + L.length) c1 (l ++ L) s _ HR1.out (by omega)).mono ?_
  rintro e w2 ⟨A2, c2, rfl, ho2, hc1, hc2, hb2⟩
  have hr2 := Rd.of_own ho2
  have HR2 := Lib.hid hr2
  have HM2 := Lib.hid (HM1.out.trans0 (Mod.of_below (S := Non) hb2))
  clear hr2 ho2 hb2
  go_wp2_with fail
  go_ret
  refine ⟨A2, n + L.length + s.size, c2, rfl, HRL.out, ?_, hc1, hc2, HM2.out⟩
  have := HR2.out
  rwa [HRE.out] at this

def nBs : List Int → List UInt8
  | [] => []
  | x :: r => nB x ++ nBs r
theorem nBs_snoc (l : List Int) (x : Int) : nBs (l ++ [x]) = nBs l ++ nB x := by
  induction l with
  | nil => simp [nBs]
  | cons a r ih => rw [List.cons_append, nBs, nBs, ih, List.append_assoc]
theorem nBs_len : ∀ l : List Int, (nBs l).length ≤ 9 * l.length
  | [] => by simp [nBs]
  | x :: r => by have := nBs_len r; have := nB_len x; rw [nBs, List.length_append, List.length_cons]; omega

set_option maxRecDepth 100000 in
set_option maxHeartbeats 1000000 in
theorem nums_any (A B : Option Addr) (n c m d : Nat) (l : List UInt8) (xs : List Int) (w : World) (h : Rd w A n (by8 l)) (hnc : n ≤ c) (hcm : c ≤ 9223372036854775807) (g : Rd w B m (xs.map (Value.int .i64))) (hm : m ≤ 1000) (hn : n ≤ 100000000000) :
    Calls Tryz.prog 121 #[.slice A n c, .slice B m d] w fun e w' => ∃ A' n' c', e = .returned (.slice A' n' c') ∧ n' = (l ++ nBs xs).length ∧ Rd w' A' n' (by8 (l ++ nBs xs)) ∧ n' ≤ c' ∧ c' ≤ 9223372036854775807 ∧ Mod Non w w' := by
  have hll : l.length = n := by simpa using h.1
  have hml : xs.length = m := by simpa using g.1
  obtain ⟨R, hR⟩ : ∃ R, l ++ nBs xs = R := ⟨_, rfl⟩
  rw [hR]
  have HR := Lib.hid hR
  have HLL := Lib.hid hll
  have HML := Lib.hid hml
  have HH := Lib.hid h
  have HG := Lib.hid g
  clear hR hll hml h g
  go_enter Tryz.func121, Tryz.ntmps121
  go_wp2_with fail
  go_loopw [0, 9] (fun v i wr => ∃ (k q cq : Nat) (Aq : Option Addr) (dd : List UInt8), k ≤ m ∧ i = .int .i64 k ∧ v = .slice Aq q cq ∧ q ≤ cq ∧ cq ≤ 9223372036854775807 ∧ q ≤ 100000000000 + 9 * k ∧ Hid (dd = l ++ nBs (xs.take k)) ∧ Hid (Rd wr Aq q (by8 dd)) ∧ Hid (Mod Non w wr)) (fun _ i _ => m - (intOf i).toNat)
  case atStart => exact ⟨0, n, c, A, l, Nat.zero_le _, rfl, rfl, hnc, hcm, by omega, by show _ = _; simp [nBs], HH.out, Mod.refl _ _⟩
  case round =>
    obtain ⟨k, q, cq, Aq, dd, hk, rfl, rfl, hq1, hq2, hq3, HD, HRd, HM⟩ := hrel
    by_cases hlt : k < m
    · obtain ⟨b, o, rfl, u, hu, hc⟩ := (HG.out.mod0 HM.out).at_ hlt
      rw [List.getElem?_map] at hu
      obtain ⟨x, hx, rfl⟩ := Option.map_eq_some_iff.1 hu
      have hpn := putNum_any Aq q cq dd x wr HRd.out (by omega)
      have h9 := nB_len x
      have hdl : dd.length = q := by simpa using HRd.out.1
      obtain ⟨L, hL⟩ : ∃ L, nB x = L := ⟨_, rfl⟩
      have hL2 : numB (clampN x) = L := hL
      rw [hL2] at hpn
      rw [hL] at h9
      have HX : Hid (dd ++ L = l ++ nBs (xs.take (k + 1))) := by
        show _ = _
        rw [take_snoc' xs k x hx, nBs_snoc, HD.out, hL, List.append_assoc]
      have HPN := Lib.hid hpn
      have i1 : (0 : Int) ≤ (k : Int) := by omega
      have i2 : (k : Int) < (m : Int) := by omega
      clear hu hx hpn hL hL2 hdl
      go_wp2_with fail
      refine HPN.out.mono ?_
      rintro e w1 ⟨A1, c1, rfl, ho1, hb1⟩
      obtain ⟨A1', c1', he, hc1, hc2⟩ := own_slice ho1
      cases he
      have hr1 := Rd.of_own ho1
      have HR1 := Lib.hid hr1
      have HM1 := Lib.hid (HM.out.trans0 (Mod.of_below (S := Non) hb1))
      have hmx : maxLen = 9223372036854775807 := rfl
      have hc3 : c1 ≤ 9223372036854775807 := by omega
      clear hr1 ho1 hb1 hmx
      go_wp2_with fail
      go_roundw
      case rel => exact ⟨k + 1, q + L.length, c1, A1, dd ++ L, by omega, by go_num, rfl, hc1, hc3, by omega, HX.out, HR1.out, HM1.out⟩
      case measure => simp [intOf]; omega
    · obtain rfl : k = m := by omega
      have hfin : dd = R := by rw [HD.out, List.take_of_length_le (by rw [HML.out]; omega), HR.out]
      have hdl : dd.length = q := by simpa using HRd.out.1
      have HF := Lib.hid hfin
      have HDL := Lib.hid hdl
      clear hfin hdl
      go_wp2_with fail
      go_ret
      exact ⟨Aq, q, cq, rfl, by rw [← HF.out, HDL.out], by rw [← HF.out]; exact HRd.out, hq1, hq2, HM.out⟩

end Go.Proofs.YtdpjnpjmokncdaaGreatDoor

/- edit.Encode. -/
namespace Go.Proofs.YtdpjnpjmokncdaaGreatDoor
open Go.RowKit

/-- what Encode answers. -/
def EnPost (v : Vs) (w : World) (e : Ending) (w' : World) : Prop :=
  if checkV v = true then ∃ A c, e = .returned (.tuple #[.slice A (encV v).length c, .int .i64 0]) ∧ Rd w' A (encV v).length (by8 (encV v)) ∧ (encV v).length ≤ c ∧ c ≤ 9223372036854775807 ∧ Mod Non w w'
  else e = .returned (.tuple #[.slice none 0 0, .int .i64 1]) ∧ Mod Non w w'

/-- between two rounds. -/
structure EnM (w : World) (x : Vw) (n k : Nat) (bx : Nat) (A : Option Addr) (q : Nat) (dd : List UInt8) (wr : World) : Prop where
  mod : Mod Non w wr
  box : Blk wr bx 34 #[.int .i64 x.gen, .int .i64 x.next, .int .i64 x.log, .int .i64 x.seq, .slice x.A n x.c]
  eq : dd = nBs [x.gen, x.next, x.log, x.seq, (n : Int)] ++ encMs ((x.ms.take k).map (·.m))
  rd : Rd wr A q (by8 dd)

theorem encM_split (m : Mt) : encM m = nBs [m.num, m.level, m.count] ++ (textB m.first ++ textB m.last) := by
  unfold encM textB
  simp [nBs, List.append_assoc]
theorem encV_split (v : Vs) : encV v = nBs [v.gen, v.next, v.log, v.seq, (v.tables.length : Int)] ++ encMs v.tables := by
  unfold encV
  simp [nBs, List.append_assoc]

set_option maxRecDepth 100000 in
set_option maxHeartbeats 8000000 in
theorem encode_any (x : Vw) (w : World) (h : VwOk w x) :
    Calls Tryz.prog 77 #[x.val] w (EnPost x.v w) := by
  obtain ⟨gen, next, log, seq, A, c, ms⟩ := x
  obtain ⟨n, hn⟩ : ∃ n, ms.length = n := ⟨_, rfl⟩
  have hX : VwOk w ⟨gen, next, log, seq, A, c, ms⟩ := h
  obtain ⟨hrow, hnc, hcm, hok⟩ := h
  simp only at hrow hnc hcm hok
  rw [hn] at hrow hnc
  obtain ⟨V, hV⟩ : ∃ V, Vw.v ⟨gen, next, log, seq, A, c, ms⟩ = V := ⟨_, rfl⟩
  have hck : ∀ W, Mod Non w W → Calls Tryz.prog 22 #[.agg #[.int .i64 gen, .int .i64 next, .int .i64 log, .int .i64 seq, .slice A n c]] W fun e w' => e = .returned (.int .i64 (if checkV V = true then 0 else 1)) ∧ Mod Non W w' := fun W hW => by
    have := check_any ⟨gen, next, log, seq, A, c, ms⟩ W (hX.mod0 hW)
    unfold Vw.val at this
    simp only at this
    rw [hn, hV] at this
    exact this
  rw [hV]
  unfold Vw.val
  simp only
  rw [hn]
  have HCK := Lib.hid hck
  have HN := Lib.hid hn
  have HV := Lib.hid hV
  have HROW := Lib.hid hrow
  have HOK := Lib.hid hok
  have hvt : V.tables = ms.map (·.m) := by rw [← hV]; rfl
  have HVT := Lib.hid hvt
  have hbox : Blk (w.alloc (.cells #[.int .i64 gen, .int .i64 next, .int .i64 log, .int .i64 seq, .slice A n c] 34)) w.heap.size 34 #[.int .i64 gen, .int .i64 next, .int .i64 log, .int .i64 seq, .slice A n c] := Blk.new _ _ _
  have HMA := Lib.hid ((Mod.refl Non w).alloc (.cells #[.int .i64 gen, .int .i64 next, .int .i64 log, .int .i64 seq, .slice A n c] 34))
  have HBX := Lib.hid hbox
  clear hck hn hV hrow hok hvt hbox hX
  go_enter Tryz.func77, Tryz.ntmps77
  go_wp2_with fail
  refine (HCK.out _ HMA.out).mono ?_
  by_cases hcv : checkV V = true
  · rw [if_pos hcv]
    obtain ⟨hlen, hl4⟩ := encV_len hcv
    have hmr : ∀ m ∈ V.tables, mtRight m = true := by
      unfold checkV at hcv
      rw [Bool.and_eq_true] at hcv
      exact tabsAll_right hcv.2
    have HCV := Lib.hid hcv
    have HMR := Lib.hid hmr
    have hn4 : n ≤ 4096 := by
      have h1 := congrArg List.length HVT.out
      simp only [List.length_map] at h1
      have h2 := HN.out
      omega
    rintro e w1 ⟨rfl, hm1⟩
    have HM1 := Lib.hid (HMA.out.trans0 hm1)
    have HBX1 := Lib.hid (HBX.out.mod hm1 fun h => h)
    have c0 : w1.cell? ⟨w.heap.size, 0, none⟩ = some (.int .i64 gen) := HBX1.out.cell 0
    have c1 : w1.cell? ⟨w.heap.size, 1, none⟩ = some (.int .i64 next) := HBX1.out.cell 1
    have c2 : w1.cell? ⟨w.heap.size, 2, none⟩ = some (.int .i64 log) := HBX1.out.cell 2
    have c3 : w1.cell? ⟨w.heap.size, 3, none⟩ = some (.int .i64 seq) := HBX1.out.cell 3
    have c4 : w1.cell? ⟨w.heap.size, 4, none⟩ = some (.slice A n c) := HBX1.out.cell 4
    have h5 := rd_new w1 3 [.int .i64 gen, .int .i64 next, .int .i64 log, .int .i64 seq, .int .i64 (n : Int)]
    have hm5 : Mod Non w1 (w1.alloc (.cells #[.int .i64 gen, .int .i64 next, .int .i64 log, .int .i64 seq, .int .i64 (n : Int)] 3)) := (Mod.refl Non w1).alloc _
    have H5 := Lib.hid h5
    have HM5 := Lib.hid hm5
    clear hcv hmr hm1 h5 hm5
    go_wp2_with fail
    refine (nums_any none (some ⟨w1.heap.size, 0, none⟩) 0 0 5 5 [] [gen, next, log, seq, (n : Int)] _ (Rd.nil _ _) (by omega) (by omega) H5.out (by omega) (by omega)).mono ?_
    rintro e w2 ⟨A2, n2, c2', rfl, hn2, hr2, hnc2, hcm2, hm2⟩
    have HR2 := Lib.hid hr2
    have HM2 := Lib.hid ((HM1.out.trans0 HM5.out).trans0 hm2)
    have HBX2 := Lib.hid ((HBX1.out.mod HM5.out fun h => h).mod hm2 fun h => h)
    have c4 : w2.cell? ⟨w.heap.size, 4, none⟩ = some (.slice A n c) := HBX2.out.cell 4
    have hn2b : n2 ≤ 45 := by
      have := nBs_len [gen, next, log, seq, (n : Int)]
      rw [hn2]
      simpa using this
    have HN2 := Lib.hid hn2
    clear hn2 hr2 hm2 c0 c1 c2 c3
    go_wp2_with fail
    go_loopw [5, 29] (fun v i wr => ∃ (k q cq : Nat) (Aq : Option Addr) (dd : List UInt8), k ≤ n ∧ i = .int .i64 k ∧ v = .slice Aq q cq ∧ q ≤ cq ∧ cq ≤ 9223372036854775807 ∧ q ≤ 45 + 173 * k ∧ Hid (EnM w ⟨gen, next, log, seq, A, c, ms⟩ n k w.heap.size Aq q dd wr)) (fun _ i _ => n - (intOf i).toNat)
    case atStart => exact ⟨0, n2, c2', A2, _, Nat.zero_le _, rfl, rfl, hnc2, hcm2, by omega, HM2.out, HBX2.out, by simp [encMs], HR2.out⟩
    case round =>
      obtain ⟨k, q, cq, Aq, dd, hk, rfl, rfl, hq1, hq2, hq3, HP⟩ := hrel
      by_cases hlt : k < n
      · obtain ⟨b, o, y, rfl, hy, g0, g1, g2, g3, g4⟩ := (HROW.out.mod0 HP.out.mod).mw HN.out hlt
        have hyo := (HOK.out y (List.mem_of_getElem? hy)).mod0 HP.out.mod
        have hyr := HMR.out y.m (by rw [HVT.out]; exact List.mem_map.2 ⟨y, List.mem_of_getElem? hy, rfl⟩)
        have hsn : (ms.take (k + 1)).map (·.m) = (ms.take k).map (·.m) ++ [y.m] := by rw [take_snoc' ms k y hy, List.map_append]; rfl
        have hlm := encM_len hyr
        have hsp := encM_split y.m
        obtain ⟨⟨num, level, count, first, last⟩, YA, ca, YB, cb⟩ := y
        simp only at g0 g1 g2 g3 g4 hsn hlm hsp
        obtain ⟨n1, hn1⟩ : ∃ n1, first.length = n1 := ⟨_, rfl⟩
        obtain ⟨n2', hn2⟩ : ∃ n2, last.length = n2 := ⟨_, rfl⟩
        rw [hn1] at g3
        rw [hn2] at g4
        have HSN := Lib.hid hsn
        have HSP := Lib.hid hsp
        have HYO := Lib.hid hyo
        have hbm : Blk (wr.alloc (.cells #[.int .i64 num, .int .i64 level, .int .i64 count, .slice YA n1 ca, .slice YB n2' cb] 95)) wr.heap.size 95 #[.int .i64 num, .int .i64 level, .int .i64 count, .slice YA n1 ca, .slice YB n2' cb] := Blk.new _ _ _
        have hmm1 : Mod Non wr (wr.alloc (.cells #[.int .i64 num, .int .i64 level, .int .i64 count, .slice YA n1 ca, .slice YB n2' cb] 95)) := (Mod.refl Non wr).alloc _
        have h3 := rd_new (wr.alloc (.cells #[.int .i64 num, .int .i64 level, .int .i64 count, .slice YA n1 ca, .slice YB n2' cb] 95)) 3 [.int .i64 num, .int .i64 level, .int .i64 count]
        rw [World.size_alloc] at h3
        have hmm2 : Mod Non (wr.alloc (.cells #[.int .i64 num, .int .i64 level, .int .i64 count, .slice YA n1 ca, .slice YB n2' cb] 95)) ((wr.alloc (.cells #[.int .i64 num, .int .i64 level, .int .i64 count, .slice YA n1 ca, .slice YB n2' cb] 95)).alloc (.cells #[.int .i64 num, .int .i64 level, .int .i64 count] 3)) := (Mod.refl Non _).alloc _
        have HBM := Lib.hid hbm
        have HMM1 := Lib.hid hmm1
        have HMM2 := Lib.hid hmm2
        have H3 := Lib.hid h3
        have i1 : (0 : Int) ≤ (k : Int) := by omega
        have i2 : (k : Int) < (n : Int) := by omega
        have HN1 := Lib.hid hn1
        have HNN2 := Lib.hid hn2
        clear hy hyo hyr hsn hsp hn1 hn2 hbm hmm1 h3 hmm2
        go_wp2_with fail
        refine (nums_any Aq (some ⟨wr.heap.size + 1, 0, none⟩) q cq 3 3 dd [num, level, count] _ ((HP.out.rd.mod0 HMM1.out).mod0 HMM2.out) hq1 hq2 H3.out (by omega) (by omega)).mono ?_
        rintro e w4 ⟨A4, n4, c4', rfl, hn4', hr4, hnc4, hcm4, hm4⟩
        have HM4 := Lib.hid ((HMM1.out.trans0 HMM2.out).trans0 hm4)
        have HB4 := Lib.hid ((HBM.out.mod HMM2.out fun h => h).mod hm4 fun h => h)
        have HR4 := Lib.hid hr4
        have HN4 := Lib.hid hn4'
        have e3 : w4.cell? ⟨wr.heap.size, 3, none⟩ = some (.slice YA n1 ca) := HB4.out.cell 3
        have e4 : w4.cell? ⟨wr.heap.size, 4, none⟩ = some (.slice YB n2' cb) := HB4.out.cell 4
        clear hr4 hn4' hm4
        obtain ⟨s1, hs1⟩ : ∃ s1 : ByteArray, (⟨first.toArray⟩ : ByteArray) = s1 := ⟨_, rfl⟩
        obtain ⟨s2, hs2⟩ : ∃ s2 : ByteArray, (⟨last.toArray⟩ : ByteArray) = s2 := ⟨_, rfl⟩
        have hconv1 : ∀ W, Rd W YA n1 (by8 first) → (convert 44 9 (.slice YA n1 ca)).run Tryz.prog W = .ok (.string s1) W := fun W h => by
          rw [← hs1]; exact conv_str W 44 9 5 YA n1 ca first Tryz.underlying44 Tryz.underlying5 Tryz.underlying9 h
        have hconv2 : ∀ W, Rd W YB n2' (by8 last) → (convert 44 9 (.slice YB n2' cb)).run Tryz.prog W = .ok (.string s2) W := fun W h => by
          rw [← hs2]; exact conv_str W 44 9 5 YB n2' cb last Tryz.underlying44 Tryz.underlying5 Tryz.underlying9 h
        have hsz1 : s1.size = n1 := by rw [← hs1, ← HN1.out]; exact List.size_toArray
        have hsz2 : s2.size = n2' := by rw [← hs2, ← HNN2.out]; exact List.size_toArray
        have hsd1 : s1.data.toList = first := by rw [← hs1]
        have hsd2 : s2.data.toList = last := by rw [← hs2]
        have HSD1 := Lib.hid hsd1
        have HSD2 := Lib.hid hsd2
        have hnb : n4 ≤ 1000000 ∧ s1.size ≤ 1000000 ∧ s2.size ≤ 1000000 := by
          have h1 := nBs_len [num, level, count]
          have h2 : dd.length = q := by simpa using HP.out.rd.1
          have h3 := HN4.out
          rw [List.length_append] at h3
          simp only [List.length_cons, List.length_nil] at h1
          have h4 := HSP.out
          have h5 := congrArg List.length h4
          simp only [textB, List.length_append, HN1.out, HNN2.out] at h5
          omega
        obtain ⟨hnb1, hnb2, hnb3⟩ := hnb
        have HKE : Hid (∀ W, Mod Non w4 W → W.cell? ⟨wr.heap.size, 3, none⟩ = some (.slice YA n1 ca) ∧ W.cell? ⟨wr.heap.size, 4, none⟩ = some (.slice YB n2' cb) ∧ Rd W YA n1 (by8 first) ∧ Rd W YB n2' (by8 last)) :=
          fun W hW => ⟨(HB4.out.mod hW fun h => h).cell 3, (HB4.out.mod hW fun h => h).cell 4, by rw [← HN1.out]; exact ((HYO.out.mod0 HM4.out).mod0 hW).a, by rw [← HNN2.out]; exact ((HYO.out.mod0 HM4.out).mod0 hW).b⟩
        have hb5 : ∀ n5, n5 = ((dd ++ nBs [num, level, count]) ++ textB s1.data.toList).length → n5 ≤ 3000000 := fun n5 hn5 => by
          have h1 := nB_len (s1.data.toList.length : Int)
          have h2 : s1.data.toList.length = s1.size := Array.length_toList
          have h3 := HN4.out
          rw [hn5]
          unfold textB
          simp only [List.length_append] at h3 ⊢
          omega
        have HB5L := Lib.hid hb5
        have hke := HKE.out _ ((Mod.refl Non w4).drew)
        clear hb5
        clear hs1 hs2 hsz1 hsz2 hsd1 hsd2 e3 e4
        go_wp2_with fail
        go_region_held3 (fun w' => w'.cell? ⟨wr.heap.size, 3, none⟩ = some (.slice YA n1 ca) ∧ w'.cell? ⟨wr.heap.size, 4, none⟩ = some (.slice YB n2' cb) ∧ Rd w' YA n1 (by8 first) ∧ Rd w' YB n2' (by8 last))
          (first | exact hke | assumption | go_keep)
          (first
            | (go_at_call 122
               (with_reducible refine (putText_any A4 n4 c4' _ s1 _ (HR4.out.mod0 ((Mod.refl Non w4).drew)) (by omega)).mono ?_)
               rintro e w5 ⟨A5, n5, c5, rfl, hn5, hr5, hnc5, hcm5, hm5⟩
               have HM5' := Lib.hid (((Mod.refl Non w4).drew).trans0 hm5)
               have hke := HKE.out w5 HM5'.out
               have HR5 := Lib.hid hr5
               have HN5 := Lib.hid hn5
               have hn5b := HB5L.out n5 hn5
               clear hn5 hr5 hm5)
            | (go_at_call 122
               (with_reducible refine (putText_any A5 n5 c5 _ s2 _ HR5.out (by omega)).mono ?_)
               rintro e w6 ⟨A6, n6, c6, rfl, hn6, hr6, hnc6, hcm6, hm6⟩
               have HM6 := Lib.hid (HM5'.out.trans0 hm6)
               have hke := HKE.out w6 HM6.out
               have HR6 := Lib.hid hr6
               have HN6 := Lib.hid hn6
               clear hn6 hr6 hm6)
            | fail)
        all_goals
          have hbyt : Hid ((((dd ++ nBs [num, level, count]) ++ textB s1.data.toList) ++ textB s2.data.toList) = dd ++ encM ⟨num, level, count, first, last⟩) := by
            show _ = _
            rw [HSP.out, HSD1.out, HSD2.out]
            simp only [List.append_assoc]
          have hlen6 : n6 ≤ 45 + 173 * (k + 1) := by
            have h1 := HN6.out
            rw [hbyt.out, List.length_append] at h1
            have h2 : dd.length = q := by simpa using HP.out.rd.1
            omega
          go_wp2_with fail
          go_roundw
          case rel =>
            refine ⟨k + 1, n6, c6, A6, _, by omega, by go_num, rfl, hnc6, hcm6, hlen6, (HP.out.mod.trans0 HM4.out).trans0 HM6.out, ((HP.out.box.mod HM4.out fun h => h).mod HM6.out fun h => h), ?_, HR6.out⟩
            rw [hbyt.out, HP.out.eq, HSN.out, encMs_snoc, List.append_assoc]
          case measure => simp [intOf]; omega
      · obtain rfl : k = n := by omega
        have hdd : dd = encV V := by
          have h1 := HP.out.eq
          rw [List.take_of_length_le (by show ms.length ≤ k; rw [HN.out]; omega)] at h1
          rw [h1, encV_split, HVT.out, ← HV.out]
          simp only [Vw.v, List.length_map, HN.out]
        have hql : (encV V).length = q := by rw [← hdd]; simpa using HP.out.rd.1
        have HDD := Lib.hid hdd
        have HQL := Lib.hid hql
        clear hdd hql
        go_wp2_with fail
        go_ret2
        unfold EnPost
        rw [if_pos HCV.out, HQL.out]
        exact ⟨Aq, cq, rfl, by rw [← HDD.out]; exact HP.out.rd, hq1, hq2, HP.out.mod⟩
  · rw [if_neg hcv]
    have HCV := Lib.hid hcv
    rintro e w1 ⟨rfl, hm1⟩
    clear hcv
    go_wp2_with fail
    go_ret2
    unfold EnPost
    rw [if_neg HCV.out]
    exact ⟨rfl, HMA.out.trans0 hm1⟩

end Go.Proofs.YtdpjnpjmokncdaaGreatDoor

/- code.TakeText; the reader's num and text. -/
namespace Go.Proofs.YtdpjnpjmokncdaaGreatDoor
open Go.RowKit

def TtPost (l : List UInt8) (most : Int) (w : World) (e : Ending) (w' : World) : Prop :=
  match takeText l most with
  | none => e = .returned (.tuple #[.string ⟨#[]⟩, .slice none 0 0, .int .i64 2]) ∧ Mod Non w w'
  | some (t, rest) => ∃ A' c', e = .returned (.tuple #[.string ⟨t.toArray⟩, .slice A' rest.length c', .int .i64 0]) ∧ Rd w' A' rest.length (by8 rest) ∧ (∀ b, blkOf A' = some b → w.heap.size ≤ b) ∧ rest.length ≤ c' ∧ c' ≤ 9223372036854775807 ∧ Mod Non w w'

set_option maxRecDepth 100000 in
set_option maxHeartbeats 1000000 in
theorem takeText_any (A : Option Addr) (n c : Nat) (l : List UInt8) (most : Int) (w : World) (h : Rd w A n (by8 l)) (hnc : n ≤ c) (hn : n ≤ 140737488351232) (hcm : c ≤ 9223372036854775807) :
    Calls Tryz.prog 130 #[.slice A n c, .int .i64 most] w (TtPost l most w) := by
  have ht := takeNum_any A n c l w h hnc (by omega) hcm
  unfold TnPost at ht
  have hll : l.length = n := by simpa using h.1
  cases htn : takeNum l with
  | none =>
    rw [htn] at ht
    have hp : takeText l most = none := by unfold takeText; rw [htn]
    have HT := Lib.hid ht
    have HP := Lib.hid hp
    clear ht htn hp h
    go_enter Tryz.func130, Tryz.ntmps130
    go_wp2_with fail
    refine HT.out.mono ?_
    rintro e w1 ⟨rfl, rfl⟩
    go_wp2_with fail
    go_ret3
    unfold TtPost
    rw [HP.out]
    exact ⟨rfl, Mod.refl _ _⟩
  | some p =>
    obtain ⟨m, rest⟩ := p
    rw [htn] at ht
    obtain ⟨hrl, hm62⟩ := takeNum_spec htn
    have HT := Lib.hid ht
    obtain ⟨q, hq⟩ : ∃ q, rest.length = q := ⟨_, rfl⟩
    rw [hq] at hrl
    have HQ := Lib.hid hq
    by_cases hbad : most < (m : Int) ∨ (q : Int) < (m : Int)
    · have hp : takeText l most = none := by unfold takeText; rw [htn]; simp only; rw [if_pos (by rw [hq]; exact hbad)]
      have HP := Lib.hid hp
      have hfin : ∀ w', Mod Non w w' → TtPost l most w (.returned (.tuple #[.string ⟨#[]⟩, .slice none 0 0, .int .i64 2])) w' := fun w' hw => by
        unfold TtPost
        rw [HP.out]
        exact ⟨rfl, hw⟩
      have HF := Lib.hid hfin
      clear ht htn hp h hq hfin
      by_cases h1 : most < (m : Int)
      · have d1 : decide (most < (m : Int)) = true := decide_eq_true h1
        go_enter Tryz.func130, Tryz.ntmps130
        go_wp2_with fail
        refine HT.out.mono ?_
        rintro e w1 ⟨A1, c1, rfl, ho1, hb1⟩
        have HM := Lib.hid (Mod.of_below (S := Non) hb1)
        clear ho1 hb1
        go_wp2_with fail
        go_ret3
        exact HF.out _ HM.out
      · have d1 : decide (most < (m : Int)) = false := decide_eq_false h1
        have d2 : decide ((q : Int) < (m : Int)) = true := decide_eq_true (hbad.resolve_left h1)
        have d2' : decide (q < m) = true := decide_eq_true (by have := hbad.resolve_left h1; omega)
        clear hbad h1
        go_enter Tryz.func130, Tryz.ntmps130
        go_wp2_with fail
        refine HT.out.mono ?_
        rw [HQ.out]
        rintro e w1 ⟨A1, c1, rfl, ho1, hb1⟩
        have HM := Lib.hid (Mod.of_below (S := Non) hb1)
        clear ho1 hb1
        go_wp2_with fail
        go_ret3
        exact HF.out _ HM.out
    · have hmq : m ≤ q := by omega
      have hmm : (m : Int) ≤ most := by omega
      have hp : takeText l most = some (rest.take m, rest.drop m) := by unfold takeText; rw [htn]; simp only; rw [if_neg (by rw [hq]; exact hbad)]
      have HP := Lib.hid hp
      have d1 : decide (most < (m : Int)) = false := decide_eq_false (by omega)
      have d2 : decide ((q : Int) < (m : Int)) = false := decide_eq_false (by omega)
      have d2' : decide (q < m) = false := decide_eq_false (by omega)
      clear ht htn hp h hq hbad
      go_enter Tryz.func130, Tryz.ntmps130
      go_wp2_with fail
      refine HT.out.mono ?_
      rw [HQ.out]
      rintro e w1 ⟨A1, c1, rfl, ho1, hb1⟩
      obtain ⟨A1', c1', he, hc1, hc2⟩ := own_slice ho1
      cases he
      have hr1 := Rd.of_own ho1
      have hbase := own_base ho1
      have hmx : maxLen = 9223372036854775807 := rfl
      have hcv : ∀ j, (convert 44 9 (.slice A1 m c1)).run Tryz.prog (w1.drewN j) = .ok (.string ⟨(rest.take m).toArray⟩) (w1.drewN j) := fun j =>
        conv_str (w1.drewN j) 44 9 5 A1 m c1 (rest.take m) Tryz.underlying44 Tryz.underlying5 Tryz.underlying9 (by rw [by8_take]; exact hr1.take hmq)
      have hcut := hr1.cut (cap := c1) hmq hc1
      rw [← by8_drop] at hcut
      have hcb : ∀ b, blkOf (if c1 = m then A1 else A1.map (·.add m)) = some b → w.heap.size ≤ b := fun b hb => by
        by_cases hx : w.heap.size ≤ b
        · exact hx
        · exact absurd (Off.cut (S := fun k => k = b) (A := A1) (k := m) (cap := c1) (fun b' hb' e => hx (by rw [← e]; exact hbase b' hb')) b hb rfl).elim id
      have HM := Lib.hid (Mod.of_below (S := Non) hb1)
      have hc3 : c1 ≤ 9223372036854775807 := by omega
      have hform : (A1 = none ∧ c1 = 0) ∨ ∃ g, A1 = some ⟨g, 0, none⟩ := by
        rcases ho1.2 with ⟨hv, _⟩ | ⟨g, cap, cur, hv, _⟩
        · cases hv; exact .inl ⟨rfl, rfl⟩
        · cases hv; exact .inr ⟨g, rfl⟩
      have hrl2 : (rest.drop m).length = q - m := by rw [List.length_drop, HQ.out]
      have hfin : ∀ (A2 : Option Addr) (cc : Nat) (w' : World), (if c1 = m then A1 else A1.map (·.add m)) = A2 → q - m ≤ cc → cc ≤ 9223372036854775807 → Mod Non w1 w' → TtPost l most w (.returned (.tuple #[.string ⟨(rest.take m).toArray⟩, .slice A2 (q - m) cc, .int .i64 0])) w' := fun A2 cc w' e1 e2 e3 e4 => by
        unfold TtPost
        rw [HP.out]
        simp only
        rw [hrl2]
        exact ⟨A2, cc, rfl, by rw [← e1]; exact hcut.mod0 e4, by rw [← e1]; exact hcb, e2, e3, HM.out.trans0 e4⟩
      have HF := Lib.hid hfin
      clear ho1 hb1 hr1 hbase hmx hcut hcb hfin hrl2
      obtain ⟨sv, hsv⟩ : ∃ sv : ByteArray, (⟨(rest.take m).toArray⟩ : ByteArray) = sv := ⟨_, rfl⟩
      rw [hsv] at hcv HF
      clear hsv
      rcases hform with ⟨rfl, rfl⟩ | ⟨g, rfl⟩
      · obtain rfl : q = 0 := by omega
        obtain rfl : m = 0 := by omega
        go_wp2_with fail
        go_quiet (fail)
        go_wp2_with fail
        go_ret3
        exact HF.out none 0 _ rfl (by omega) (by omega) ((Mod.refl Non w1).drewN _)
      · by_cases hcm1 : c1 = m
        · subst hcm1
          obtain rfl : q = c1 := by omega
          have HF2 : ∀ w', Mod Non w1 w' → TtPost l most w (.returned (.tuple #[.string sv, .slice (some ⟨g, 0, none⟩) 0 0, .int .i64 0])) w' := fun w' hw => by
            have := HF.out (some ⟨g, 0, none⟩) 0 w' (by simp) (by omega) (by omega) hw
            rw [Nat.sub_self] at this
            exact this
          go_wp2_with fail
          go_quiet (fail)
          go_wp2_with fail
          go_ret3
          exact HF2 _ ((Mod.refl Non w1).drewN _)
        · have q1 : (m : Int) ≤ (c1 : Int) := by omega
          have q2 : (m : Int) ≤ (q : Int) := by omega
          have q3 : (0 : Int) ≤ (m : Int) := by omega
          have HF2 : ∀ w', Mod Non w1 w' → TtPost l most w (.returned (.tuple #[.string sv, .slice (some ⟨g, m, none⟩) (q - m) (c1 - m), .int .i64 0])) w' := fun w' hw =>
            HF.out (some ⟨g, m, none⟩) (c1 - m) w' (by rw [if_neg hcm1]; simp [Addr.add]; exact fun h => h.symm) (by omega) (by omega) hw
          go_wp2_with fail
          go_quiet (fail)
          go_wp2_with fail
          go_ret3
          exact HF2 _ ((Mod.refl Non w1).drewN _)

/-- the reader in memory. -/
structure RsAt (w : World) (rb : Nat) (s : Rs) (A : Option Addr) (n c : Nat) : Prop where
  blk : Blk w rb 146 #[.slice A n c, .bool s.bad]
  rd : Rd w A n (by8 s.b)
  nc : n ≤ c
  cm : c ≤ 9223372036854775807
  off : 0 < n → ∀ b, blkOf A = some b → b ≠ rb
  le : n ≤ 140737488351232
theorem RsAt.mod {S : Nat → Prop} {w w' : World} {rb : Nat} {s : Rs} {A : Option Addr} {n c : Nat} (h : RsAt w rb s A n c) (hm : Mod S w w') (h1 : ¬ S rb) (h2 : 0 < n → Off S A) : RsAt w' rb s A n c :=
  ⟨h.blk.mod hm h1, h.rd.mod hm h2, h.nc, h.cm, h.off, h.le⟩
def RsPost (rb : Nat) (s : Rs) (v : Value) (w : World) (e : Ending) (w' : World) : Prop :=
  e = .returned v ∧ ∃ A n c, RsAt w' rb s A n c ∧ Mod (fun k => k = rb) w w' ∧ (0 < n → ∀ b, blkOf A = some b → w.heap.size ≤ b)
theorem takeText_len {l t rest : List UInt8} {most : Int} (h : takeText l most = some (t, rest)) : rest.length ≤ l.length ∧ (t.length : Int) ≤ most := by
  unfold takeText at h
  cases htn : takeNum l with
  | none => rw [htn] at h; cases h
  | some p =>
    obtain ⟨m, r⟩ := p
    obtain ⟨h1, _⟩ := takeNum_spec htn
    rw [htn] at h
    simp only at h
    split at h
    · cases h
    · cases h
      simp only [List.length_take, List.length_drop]
      omega

set_option maxRecDepth 100000 in
set_option maxHeartbeats 2000000 in
theorem num_any (rb : Nat) (s : Rs) (A : Option Addr) (n c : Nat) (w : World) (h : RsAt w rb s A n c) :
    Calls Tryz.prog 85 #[.pointer (some ⟨rb, 0, none⟩)] w (RsPost rb (numP s).2 (.int .i64 (numP s).1) w) := by
  have c0 : w.cell? ⟨rb, 0, none⟩ = some (.slice A n c) := h.blk.cell 0
  have hrb := h.blk.lt
  have ht := takeNum_any A n c s.b w h.rd h.nc (by have := h.le; omega) h.cm
  unfold TnPost at ht
  have hsl : s.b.length = n := by simpa using h.rd.1
  have HS := Lib.hid h
  cases htn : takeNum s.b with
  | none =>
    rw [htn] at ht
    have hp : numP s = (0, ⟨[], true⟩) := by unfold numP; rw [htn]
    rw [hp]
    have HT := Lib.hid ht
    have hd : ∃ bd, s.bad = bd := ⟨_, rfl⟩
    obtain ⟨bd, hbd⟩ := hd
    have c1 : w.cell? ⟨rb, 1, none⟩ = some (.bool bd) := by rw [← hbd]; exact h.blk.cell 1
    have f0 := h.blk.frozen 0
    have f1 := h.blk.frozen 1
    clear ht htn hp h hbd
    have hfin : Hid (RsPost rb ⟨[], true⟩ (.int .i64 0) w (.returned (.int .i64 0)) ((w.setCell ⟨rb, 0, none⟩ (.slice none 0 0)).setCell ⟨rb, 1, none⟩ (.bool true))) := by
      refine ⟨rfl, none, 0, 0, ⟨?_, Rd.nil _ _, by omega, by omega, (fun h => absurd h (by omega)), by omega⟩, ((Mod.refl _ w).set1 0 _).set1 1 _, fun h => absurd h (by omega)⟩
      have := (HS.out.blk.set_ 0 (.slice none 0 0)).set_ 1 (.bool true)
      exact this
    cases bd with
    | true =>
      go_enter Tryz.func85, Tryz.ntmps85
      go_wp2_with fail
      refine HT.out.mono ?_
      rintro e w1 ⟨rfl, rfl⟩
      go_wp2_with fail
      go_ret
      exact hfin.out
    | false =>
      go_enter Tryz.func85, Tryz.ntmps85
      go_wp2_with fail
      refine HT.out.mono ?_
      rintro e w1 ⟨rfl, rfl⟩
      go_wp2_with fail
      go_ret
      exact hfin.out
  | some p =>
    obtain ⟨m, rest⟩ := p
    rw [htn] at ht
    have hrl := (takeNum_spec htn).1
    have hp : numP s = ((m : Int), ⟨rest, s.bad⟩) := by unfold numP; rw [htn]
    rw [hp]
    have HT := Lib.hid ht
    have hd : ∃ bd, s.bad = bd := ⟨_, rfl⟩
    obtain ⟨bd, hbd⟩ := hd
    have HBD := Lib.hid hbd
    have hle := h.le
    rw [hsl] at hrl
    clear ht htn hp h
    go_enter Tryz.func85, Tryz.ntmps85
    go_wp2_with fail
    refine HT.out.mono ?_
    rintro e w1 ⟨A1, c1, rfl, ho1, hb1⟩
    obtain ⟨A1', c1', he, hc1, hc2⟩ := own_slice ho1
    cases he
    have hr1 := Rd.of_own ho1
    have hbase := own_base ho1
    have hmx : maxLen = 9223372036854775807 := rfl
    have hm1 : Mod Non w w1 := Mod.of_below hb1
    have hblk1 := HS.out.blk.mod hm1 fun h => h
    have e1 : w1.cell? ⟨rb, 1, none⟩ = some (.bool bd) := by rw [← HBD.out]; exact hblk1.cell 1
    have e0 : w1.cell? ⟨rb, 0, none⟩ = some (.slice A n c) := hblk1.cell 0
    have f0 := hblk1.frozen 0
    have f1 := hblk1.frozen 1
    have hfin : Hid (RsPost rb ⟨rest, s.bad⟩ (.int .i64 (m : Int)) w (.returned (.int .i64 (m : Int))) ((w1.setCell ⟨rb, 0, none⟩ (.slice A1 rest.length c1)).setCell ⟨rb, 1, none⟩ (.bool bd))) := by
      refine ⟨rfl, A1, rest.length, c1, ⟨?_, ?_, hc1, by omega, fun _ b hb e => by have := hbase b hb; omega, by omega⟩, ((hm1.non.trans0 (Mod.refl Non w1)).set1 0 _).set1 1 _, fun _ b hb => hbase b hb⟩
      · have := (hblk1.set_ 0 (.slice A1 rest.length c1)).set_ 1 (.bool bd)
        rw [HBD.out]
        exact this
      · exact hr1.mod (((Mod.refl (fun k => k = rb) w1).set1 0 _).set1 1 _) fun _ b hb e => by have := hbase b hb; omega
    clear hr1 hbase ho1 hb1 hm1 hblk1 hbd hmx c0
    cases bd with
    | true =>
      go_wp2_with fail
      go_ret
      exact hfin.out
    | false =>
      go_wp2_with fail
      go_ret
      exact hfin.out

end Go.Proofs.YtdpjnpjmokncdaaGreatDoor

/- the reader's text; bytes.Equal; edit.Decode. -/
namespace Go.Proofs.YtdpjnpjmokncdaaGreatDoor
open Go.RowKit

/-- the conversion's new row reads. -/
theorem bytesWorld_rd (w : World) (t : List UInt8) : Rd (Lib.bytesWorld w 5 ⟨t.toArray⟩) (some ⟨w.heap.size, 0, none⟩) t.length (by8 t) := by
  refine ⟨by simp, fun _ => ⟨w.heap.size, 0, rfl, fun j u hu => ?_⟩⟩
  have hj : j < t.length := by
    have := (List.getElem?_eq_some_iff.mp hu).1
    simpa using this
  rw [Nat.zero_add, Lib.bytesWorld_cell w _ _ j (by rw [show (⟨t.toArray⟩ : ByteArray).size = t.length by simp [ByteArray.size]]; exact hj)]
  simp only [by8, List.getElem?_map] at hu
  obtain ⟨b, hb, rfl⟩ := Option.map_eq_some_iff.mp hu
  simp [List.getD, hb]
  rfl
theorem bytesWorld_mod (w : World) (s : ByteArray) : Mod Non w (Lib.bytesWorld w 5 s) := Mod.of_below (Lib.bytesWorld_below _ _ _)

def TxPost (rb : Nat) (s : Rs) (w : World) (e : Ending) (w' : World) : Prop :=
  ∃ T ct, e = .returned (.slice T (textP s).1.length ct) ∧ Rd w' T (textP s).1.length (by8 (textP s).1) ∧ (textP s).1.length ≤ ct ∧ ct ≤ 9223372036854775807 ∧
    (∀ b, blkOf T = some b → w.heap.size ≤ b) ∧ ∃ A n c, RsAt w' rb (textP s).2 A n c ∧ Mod (fun k => k = rb) w w' ∧ (0 < n → ∀ b, blkOf A = some b → w.heap.size ≤ b)
theorem conv_fin (rb : Nat) (w w1 : World) (t : List UInt8) (s' : Rs) (A : Option Addr) (n c : Nat) (hr : RsAt w1 rb s' A n c) (hm : Mod (fun k => k = rb) w w1) (hfr : 0 < n → ∀ b, blkOf A = some b → w.heap.size ≤ b) (ht : t.length ≤ 4611686018427387903)
    (s : Rs) (hs : textP s = (t, s')) (sv : ByteArray) (hsv : (⟨t.toArray⟩ : ByteArray) = sv) (k z : Nat) (hk : w1.heap.size = k) (hz' : sv.size = z) :
    TxPost rb s w (.returned (.slice (some ⟨k, 0, none⟩) z (grownCap w1 z 0 5))) (Lib.bytesWorld w1 5 sv) := by
  subst hk
  subst hz'
  subst hsv
  have hz : (⟨t.toArray⟩ : ByteArray).size = t.length := by simp [ByteArray.size]
  have hb := bytesWorld_mod w1 ⟨t.toArray⟩
  unfold TxPost
  rw [hs, hz]
  refine ⟨_, _, rfl, bytesWorld_rd w1 t, grownCap_ge _ _ _ _, ?_, fun b hb => by cases hb; exact hm.size, A, n, c, hr.mod hb (fun h => h) (fun _ => Off.non A), hm.trans0 hb, hfr⟩
  have hmx : maxLen = 9223372036854775807 := rfl
  have := grownCap_le_maxLen w1 t.length 0 5 (by omega)
  omega

set_option maxRecDepth 100000 in
set_option maxHeartbeats 2000000 in
theorem text_any (rb : Nat) (s : Rs) (A : Option Addr) (n c : Nat) (w : World) (h : RsAt w rb s A n c) :
    Calls Tryz.prog 86 #[.pointer (some ⟨rb, 0, none⟩)] w (TxPost rb s w) := by
  have c0 : w.cell? ⟨rb, 0, none⟩ = some (.slice A n c) := h.blk.cell 0
  have hrb := h.blk.lt
  have ht := takeText_any A n c s.b 64 w h.rd h.nc h.le h.cm
  unfold TtPost at ht
  have hsl : s.b.length = n := by simpa using h.rd.1
  have HS := Lib.hid h
  have hd : ∃ bd, s.bad = bd := ⟨_, rfl⟩
  obtain ⟨bd, hbd⟩ := hd
  have HBD := Lib.hid hbd
  have hcs := fun (w : World) (s : ByteArray) => Lib.run_convert_string_bytes (P := Tryz.prog) w 9 44 5 s Tryz.underlying9 Tryz.underlying44 Tryz.underlying5
  cases htn : takeText s.b 64 with
  | none =>
    rw [htn] at ht
    have hp : textP s = ([], ⟨[], true⟩) := by unfold textP; rw [htn]
    have HT := Lib.hid ht
    have HP := Lib.hid hp
    clear ht htn hp h
    go_enter Tryz.func86, Tryz.ntmps86
    go_wp2_with fail
    refine HT.out.mono ?_
    rintro e w1 ⟨rfl, hm1⟩
    have hblk1 := HS.out.blk.mod hm1 fun h => h
    have e1 : w1.cell? ⟨rb, 1, none⟩ = some (.bool bd) := by rw [← HBD.out]; exact hblk1.cell 1
    have e0 : w1.cell? ⟨rb, 0, none⟩ = some (.slice A n c) := hblk1.cell 0
    have f0 := hblk1.frozen 0
    have f1 := hblk1.frozen 1
    have hfin : Hid (RsAt ((w1.setCell ⟨rb, 0, none⟩ (.slice none 0 0)).setCell ⟨rb, 1, none⟩ (.bool true)) rb ⟨[], true⟩ none 0 0 ∧ Mod (fun k => k = rb) w ((w1.setCell ⟨rb, 0, none⟩ (.slice none 0 0)).setCell ⟨rb, 1, none⟩ (.bool true))) := by
      refine ⟨⟨?_, Rd.nil _ _, by omega, by omega, (fun h => absurd h (by omega)), by omega⟩, ((hm1.non.trans0 (Mod.refl Non w1)).set1 0 _).set1 1 _⟩
      exact (hblk1.set_ 0 (.slice none 0 0)).set_ 1 (.bool true)
    clear hblk1 hm1 c0 hbd
    cases bd with
    | true =>
      go_wp2_with fail
      go_ret
      exact conv_fin rb w _ [] ⟨[], true⟩ none 0 0 hfin.out.1 hfin.out.2 (fun h => absurd h (by omega)) (by simp) s HP.out _ rfl _ _ (by simp) rfl
    | false =>
      go_wp2_with fail
      go_ret
      exact conv_fin rb w _ [] ⟨[], true⟩ none 0 0 hfin.out.1 hfin.out.2 (fun h => absurd h (by omega)) (by simp) s HP.out _ rfl _ _ (by simp) rfl
  | some p =>
    obtain ⟨t, rest⟩ := p
    rw [htn] at ht
    obtain ⟨hrl, htl⟩ := takeText_len htn
    have hp : textP s = (t, ⟨rest, s.bad⟩) := by unfold textP; rw [htn]
    have HT := Lib.hid ht
    have HP := Lib.hid hp
    have hle := h.le
    rw [hsl] at hrl
    obtain ⟨sv, hsv⟩ : ∃ sv : ByteArray, (⟨t.toArray⟩ : ByteArray) = sv := ⟨_, rfl⟩
    have HSV := Lib.hid hsv
    simp only [hsv] at ht
    have HT := Lib.hid ht
    clear ht htn hp h hsv
    go_enter Tryz.func86, Tryz.ntmps86
    go_wp2_with fail
    refine HT.out.mono ?_
    rintro e w1 ⟨A1, c1, rfl, hr1, hbase, hc1, hc2, hm1⟩
    have hblk1 := HS.out.blk.mod hm1 fun h => h
    have e1 : w1.cell? ⟨rb, 1, none⟩ = some (.bool bd) := by rw [← HBD.out]; exact hblk1.cell 1
    have e0 : w1.cell? ⟨rb, 0, none⟩ = some (.slice A n c) := hblk1.cell 0
    have f0 := hblk1.frozen 0
    have f1 := hblk1.frozen 1
    have hfin : Hid (RsAt ((w1.setCell ⟨rb, 0, none⟩ (.slice A1 rest.length c1)).setCell ⟨rb, 1, none⟩ (.bool bd)) rb ⟨rest, s.bad⟩ A1 rest.length c1 ∧ Mod (fun k => k = rb) w ((w1.setCell ⟨rb, 0, none⟩ (.slice A1 rest.length c1)).setCell ⟨rb, 1, none⟩ (.bool bd))) := by
      refine ⟨⟨?_, ?_, hc1, hc2, fun _ b hb e => by have := hbase b hb; omega, by omega⟩, ((hm1.non.trans0 (Mod.refl Non w1)).set1 0 _).set1 1 _⟩
      · have := (hblk1.set_ 0 (.slice A1 rest.length c1)).set_ 1 (.bool bd)
        rw [HBD.out]
        exact this
      · exact hr1.mod (((Mod.refl (fun k => k = rb) w1).set1 0 _).set1 1 _) fun _ b hb e => by have := hbase b hb; omega
    have HB := Lib.hid hbase
    clear hr1 hbase hm1 hblk1 hbd c0
    cases bd with
    | true =>
      go_wp2_with fail
      go_ret
      exact conv_fin rb w _ t ⟨rest, s.bad⟩ A1 rest.length c1 hfin.out.1 hfin.out.2 (fun _ => HB.out) (by omega) s HP.out _ HSV.out _ _ (by simp) rfl
    | false =>
      go_wp2_with fail
      go_ret
      exact conv_fin rb w _ t ⟨rest, s.bad⟩ A1 rest.length c1 hfin.out.1 hfin.out.2 (fun _ => HB.out) (by omega) s HP.out _ HSV.out _ _ (by simp) rfl

end Go.Proofs.YtdpjnpjmokncdaaGreatDoor
