/- sawyerref02.PutText. -/
import Derived.Test.YtgnpmmhpeianpaaGreatDoorB25
import Derived.Test.YtgnpmmhpeianpaaGreatDoorB10
import Derived.Test.YtgnpmmhpeianpaaGreatDoorB18
namespace Go.Proofs.YtgnpmmhpeianpaaGreatDoor
open Go.RowKit

theorem putNumR_rd (A : Option Addr) (n c : Nat) (l : List UInt8) (x : Int) (w : World) (h : Rd w A n (by8 l)) (hn : n ≤ 140737488351232) :
    Calls Tryz.prog 56 #[.slice A n c, .int .i64 x] w fun e w' => ∃ A' n' c', e = .returned (.slice A' n' c') ∧ n' = (l ++ nB x).length ∧ n' ≤ n + 9 ∧ Rd w' A' n' (by8 (l ++ nB x)) ∧ n' ≤ c' ∧ c' ≤ 9223372036854775807 ∧ Mod Non w w' := by
  have hll : l.length = n := by simpa using h.1
  refine (putNumR_any A n c l x w h hn).mono ?_
  rintro e w' ⟨A', c', rfl, ho, hb⟩
  obtain ⟨A1, c1, he, h1, h2⟩ := own_slice ho
  cases he
  have hmx : maxLen = 9223372036854775807 := rfl
  have h9 := nB_len x
  have : numB (clampN x) = nB x := rfl
  rw [this] at ho h1 ⊢
  exact ⟨A', _, c', rfl, by rw [List.length_append, hll], by omega, Rd.of_own ho, h1, by omega, Mod.of_below hb⟩

set_option maxRecDepth 100000 in
set_option maxHeartbeats 400000 in
theorem putTextR_any (A : Option Addr) (n c : Nat) (l : List UInt8) (s : ByteArray) (w : World) (h : Rd w A n (by8 l)) (hn : n + s.size ≤ 140737488351232) :
    Calls Tryz.prog 29 #[.slice A n c, .string s] w fun e w' => ∃ A' n' c', e = .returned (.slice A' n' c') ∧ n' = (l ++ textB s.data.toList).length ∧ n' ≤ n + 9 + s.size ∧ Rd w' A' n' (by8 (l ++ textB s.data.toList)) ∧ n' ≤ c' ∧ c' ≤ 9223372036854775807 ∧ Mod Non w w' := by
  have hll : l.length = n := by simpa using h.1
  have hsz : s.data.toList.length = s.size := Array.length_toList
  have h9 := nB_len (s.size : Int)
  obtain ⟨R, hR⟩ : ∃ R, l ++ textB s.data.toList = R := ⟨_, rfl⟩
  have hRe : (l ++ nB (s.size : Int)) ++ s.data.toList = R := by rw [← hR]; unfold textB; rw [hsz, List.append_assoc]
  have hRl : n + (nB (s.size : Int)).length + s.size = R.length := by rw [← hRe]; simp [hll]; omega
  rw [hR]
  have hpn := putNumR_any A n c l (s.size : Int) w h (by omega)
  obtain ⟨L, hL⟩ : ∃ L, nB (s.size : Int) = L := ⟨_, rfl⟩
  have hL2 : numB (clampN (s.size : Int)) = L := hL
  rw [hL2] at hpn
  rw [hL] at h9 hRe hRl
  have HPN := Lib.hid hpn
  have HRE := Lib.hid hRe
  have HRL := Lib.hid hRl
  have hmx : maxLen = 9223372036854775807 := rfl
  obtain ⟨i, hi, hz, h1, h2⟩ := bt.info
  clear hpn hL hL2 hR hRe hRl hsz h hll
  go_enter Tryz.func29, Tryz.ntmps29
  go_wp2_with (first
    | (go_at_call 56; refine HPN.out.mono ?_; rintro e w1 ⟨A1, c1, rfl, ho1, hb1⟩)
    | (at_builtin; refine Lib.wpList_append_own_string _ rfl (.tmp 8) (.tmp 9) 27 9 rfl w.heap.size 5 i Tryz.underlying27 Tryz.underlying9 hi hz h1 h2 (.slice A1 (n + L.length) c1) (n + L.length) (by8 (l ++ L)) rfl ho1 s rfl (by omega) (by omega) hb1.size ?_; intro v' w' hown' hg' hnil'))
  obtain ⟨A', c', rfl, hc1, hc2⟩ := own_slice hown'
  go_ret
  rw [strCells_by8, ← by8_append, HRE.out] at hown'
  exact ⟨A', _, c', rfl, HRL.out, by omega, Rd.of_own hown', hc1, by omega, Mod.of_below (hb1.grown hg' hb1.size (fun j hj => (ho1.lt j hj).1))⟩

end Go.Proofs.YtgnpmmhpeianpaaGreatDoor

/- sawyerref18: in, nums, take. -/
namespace Go.Proofs.YtgnpmmhpeianpaaGreatDoor
open Go.RowKit

set_option maxRecDepth 100000 in
set_option maxHeartbeats 400000 in
theorem inQ_any (x : Int) (w : World) : Calls Tryz.prog 61 #[.int .i64 x] w fun e w' => e = .returned (.bool (inN x)) ∧ w = w' := by
  by_cases h0 : 0 ≤ x
  · obtain ⟨q, hq⟩ : ∃ q, decide (x ≤ 1099511627776) = q := ⟨_, rfl⟩
    have hr : inN x = q := by rw [← hq]; unfold inN; simp [h0]
    rw [hr]
    have d0 : decide (0 ≤ x) = true := decide_eq_true h0
    clear hr h0
    go_enter Tryz.func61, Tryz.ntmps61
    go_wp2_with fail
    go_ret
    exact ⟨rfl, rfl⟩
  · have hr : inN x = false := by unfold inN; simp [h0]
    rw [hr]
    have d0 : decide (0 ≤ x) = false := decide_eq_false h0
    clear hr
    go_enter Tryz.func61, Tryz.ntmps61
    go_wp2_with fail
    go_ret
    exact ⟨rfl, rfl⟩

set_option maxRecDepth 100000 in
set_option maxHeartbeats 1000000 in
theorem numsQ_any (B : Option Addr) (m d : Nat) (xs : List Int) (w : World) (g : Rd w B m (xs.map (Value.int .i64))) (hm : m ≤ 1000) :
    Calls Tryz.prog 30 #[.slice B m d] w fun e w' => ∃ A' n' c', e = .returned (.slice A' n' c') ∧ n' = (nBs xs).length ∧ w'.ownsRow w.heap.size 5 1 (.slice A' n' c') n' (by8 (nBs xs)) ∧ Below w.heap.size w w' := by
  have hml : xs.length = m := by simpa using g.1
  obtain ⟨R, hR⟩ : ∃ R, nBs xs = R := ⟨_, rfl⟩
  rw [hR]
  have HR := Lib.hid hR
  have HML := Lib.hid hml
  have HG := Lib.hid g
  clear hR hml g
  go_enter Tryz.func30, Tryz.ntmps30
  go_wp2_with fail
  go_loopw [3, 4] (fun v i wr => ∃ (k q cq : Nat) (Aq : Option Addr) (dd : List UInt8), k ≤ m ∧ i = .int .i64 k ∧ v = .slice Aq q cq ∧ q ≤ cq ∧ cq ≤ 9223372036854775807 ∧ q ≤ 9 * k ∧ Hid (dd = nBs (xs.take k)) ∧ Hid (wr.ownsRow w.heap.size 5 1 (.slice Aq q cq) q (by8 dd)) ∧ Hid (Below w.heap.size w wr)) (fun _ i _ => m - (intOf i).toNat)
  case atStart => exact ⟨0, 0, 0, none, [], Nat.zero_le _, rfl, rfl, Nat.le_refl _, by omega, by omega, by show _ = _; simp [nBs], ⟨rfl, .inl ⟨rfl, rfl⟩⟩, Below.refl _ _⟩
  case round =>
    obtain ⟨k, q, cq, Aq, dd, hk, rfl, rfl, hq1, hq2, hq3, HD, HRd, HM⟩ := hrel
    by_cases hlt : k < m
    · obtain ⟨b, o, rfl, u, hu, hc⟩ := (HG.out.mod0 (Mod.of_below HM.out)).at_ hlt
      rw [List.getElem?_map] at hu
      obtain ⟨x, hx, rfl⟩ := Option.map_eq_some_iff.1 hu
      rename World => wr
      have hpn := putNumR_any Aq q cq dd x wr (Rd.of_own HRd.out) (by omega)
      have h9 := nB_len x
      obtain ⟨L, hL⟩ : ∃ L, nB x = L := ⟨_, rfl⟩
      have hL2 : numB (clampN x) = L := hL
      rw [hL2] at hpn
      rw [hL] at h9
      have HX : Hid (dd ++ L = nBs (xs.take (k + 1))) := by
        show _ = _
        rw [take_snoc' xs k x hx, nBs_snoc, HD.out, hL]
      have HPN := Lib.hid hpn
      have i1 : (0 : Int) ≤ (k : Int) := by omega
      have i2 : (k : Int) < (m : Int) := by omega
      clear hu hx hpn hL hL2
      go_wp2_with fail
      refine HPN.out.mono ?_
      rintro e w1 ⟨A1, c1, rfl, ho1, hb1⟩
      obtain ⟨A1', c1', he, hc1, hc2⟩ := own_slice ho1
      cases he
      have hr1 := own_mono ho1 HM.out.size
      have HR1 := Lib.hid hr1
      have HM1 := Lib.hid (HM.out.trans (hb1.mono HM.out.size))
      have hmx : maxLen = 9223372036854775807 := rfl
      have hc3 : c1 ≤ 9223372036854775807 := by omega
      clear hr1 ho1 hb1 hmx
      go_wp2_with fail
      go_roundw
      case rel => exact ⟨k + 1, q + L.length, c1, A1, dd ++ L, by omega, by go_num, rfl, hc1, hc3, by omega, HX.out, HR1.out, HM1.out⟩
      case measure => simp [intOf]; omega
    · obtain rfl : k = m := by omega
      have hfin : dd = R := by rw [HD.out, List.take_of_length_le (by rw [HML.out]; omega), HR.out]
      have hdl : dd.length = q := by simpa using (Rd.of_own HRd.out).1
      have HF := Lib.hid hfin
      have HDL := Lib.hid hdl
      clear hfin hdl
      go_wp2_with fail
      go_ret
      exact ⟨Aq, q, cq, rfl, by rw [← HF.out, HDL.out], by rw [← HF.out]; exact HRd.out, HM.out⟩

end Go.Proofs.YtgnpmmhpeianpaaGreatDoor

/- sawyerref18.take. -/
namespace Go.Proofs.YtgnpmmhpeianpaaGreatDoor
open Go.RowKit

set_option maxRecDepth 100000 in
set_option maxHeartbeats 1000000 in
theorem takeQ_any (A : Option Addr) (m c : Nat) (l : List UInt8) (n : Nat) (w : World) (h : Rd w A m (by8 l)) (hmc : m ≤ c) (hm : m ≤ 140737488355328) (hcm : c ≤ 9223372036854775807) (hn : n ≤ 100) :
    Calls Tryz.prog 37 #[.slice A m c, .int .i64 n] w (TkPost n l w) := by
  have h0 : TkM n l w 0 [] l (.slice none 0 0) A m c w := ⟨by
    rw [Nat.sub_zero]
    cases takeN n l with
    | none => rfl
    | some p => rfl, World.ownsRow_nil _ _ _ _, h, Mod.refl _ _, hmc, hcm, hm⟩
  have H0 := Lib.hid h0
  clear h0 h hmc hm hcm
  go_enter Tryz.func37, Tryz.ntmps37
  go_wp2_with fail
  go_loopw [0, 7, 8] (fun b v i wr => ∃ (k : Nat) (ms : List Nat) (q : List UInt8) (Aq : Option Addr) (mq cq : Nat), k ≤ n ∧ i = .int .i64 k ∧ b = .slice Aq mq cq ∧ Hid (TkM n l w k ms q v Aq mq cq wr)) (fun _ _ i _ => n - (intOf i).toNat)
  case atStart => exact ⟨0, [], l, A, m, c, Nat.zero_le _, rfl, rfl, H0.out⟩
  case round =>
    obtain ⟨k, ms, q, Aq, mq, cq, hk, rfl, rfl, HT⟩ := hrel
    rename World => wr
    obtain ⟨Av, cv, rfl, hcv1, hcv2⟩ := own_slice HT.out.own
    by_cases hlt : k < n
    · have i1 : (0 : Int) ≤ (k : Int) := by omega
      have i2 : (k : Int) < (n : Int) := by omega
      have htn := takeNumR_any Aq mq cq q wr HT.out.rd HT.out.le.1 HT.out.le.2.2 HT.out.le.2.1
      have HTN := Lib.hid htn
      clear htn
      go_wp2_with fail
      refine HTN.out.mono ?_
      intro e w1 hp
      unfold TnqPost at hp
      cases htq : takeNum q with
      | none =>
        rw [htq] at hp
        obtain ⟨rfl, hbn⟩ := hp
        have HBN := Lib.hid (Mod.of_below (S := Non) hbn)
        have hnone : takeN n l = none := by
          rw [HT.out.eq, show n - k = (n - k - 1) + 1 by omega, takeN, htq]
        have HN := Lib.hid hnone
        clear hnone htq hbn
        go_wp2_with fail
        go_ret3
        unfold TkPost
        rw [HN.out]
        exact ⟨rfl, HT.out.mod.trans0 HBN.out⟩
      | some p =>
        obtain ⟨x, r⟩ := p
        rw [htq] at hp
        obtain ⟨A1, c1, rfl, ho1, hb1⟩ := hp
        obtain ⟨A1', c1', he, hc1, hc2⟩ := own_slice ho1
        cases he
        have hrl := (takeNum_spec htq).1
        have hql : q.length = mq := by simpa using HT.out.rd.1
        obtain ⟨rn, hrn⟩ : ∃ rn, r.length = rn := ⟨_, rfl⟩
        rw [hrn] at ho1 hc1 hrl ⊢
        have hm1 : Mod Non wr w1 := Mod.of_below hb1
        have hown := own_mod HT.out.own hm1 fun _ _ h => h
        have hmx : maxLen = 9223372036854775807 := rfl
        have heq : takeN n l = match takeN (n - (k + 1)) r with
            | none => none
            | some (a, b) => some ((ms ++ [x]) ++ a, b) := by
          rw [HT.out.eq, show n - k = (n - (k + 1)) + 1 by omega, takeN_more htq]
          cases takeN (n - (k + 1)) r with
          | none => rfl
          | some p => simp
        have HEQ := Lib.hid heq
        have HR1 := Lib.hid (Rd.of_own ho1)
        have HBA := Lib.hid (own_base ho1)
        have HOL := Lib.hid fun j hj => (HT.out.own.lt j hj).2
        have HM1 := Lib.hid (HT.out.mod.trans0 hm1)
        have HO1 := Lib.hid hown
        have hle : mq ≤ 140737488355328 := HT.out.le.2.2
        have hsz := HM1.out.size
        obtain ⟨i, hi, hz, hs1, hb8⟩ := infoI
        clear heq hown hm1 hb1 ho1 htq hrn
        go_wp2_with (at_builtin; refine wpList_app _ rfl (.tmp 25) (.tmp 27) 71 rfl w.heap.size 3 i (.int .i64 0) 8 Tryz.underlying71 hi hz hs1 hb8 rfl (.slice Av k cv) k (i64s ms) rfl (own_mod HO1.out ((Mod.refl Non w1).alloc _) fun _ _ h => h) (some ⟨w1.heap.size, 0, none⟩) 1 1 (i64s [x]) rfl (one_i64 w1 3 x) (i64s_one _) (by omega) (by omega) (by rw [World.size_alloc]; omega) ?_; intro v' w2 ho2 hg2 hat2)
        go_roundw
        case rel =>
          have hm2 : Mod Non w w2 := (HM1.out.alloc _).grown hg2 fun j hj => .inr (HO1.out.lt j hj).1
          refine ⟨k + 1, ms ++ [x], r, A1, rn, c1, by omega, by go_num, rfl, HEQ.out, ?_, ?_, hm2, hc1, by omega, by omega⟩
          · have : i64s (ms ++ [x]) = i64s ms ++ i64s [x] := by simp [i64s]
            rw [this]
            exact ho2
          · refine (HR1.out.alloc (.cells #[.int .i64 (x : Int)] 3)).mod (Mod.of_grown (S := fun j => (Value.slice Av k cv).ownBlock = some j) hg2 fun _ h => h) fun _ b hb hs => ?_
            have h1 := HBA.out b hb
            have h2 := HOL.out b hs
            omega
        case measure => simp [intOf]; omega
    · obtain rfl : k = n := by omega
      have heq := HT.out.eq
      rw [Nat.sub_self, takeN] at heq
      simp only [List.append_nil] at heq
      have HEQ := Lib.hid heq
      have hmx : maxLen = 9223372036854775807 := rfl
      clear heq
      go_wp2_with fail
      go_ret3
      unfold TkPost
      rw [HEQ.out]
      exact ⟨Av, cv, Aq, mq, cq, rfl, Rd.of_own HT.out.own, ⟨hcv1, by omega⟩, by simpa using HT.out.rd.1, HT.out.rd, HT.out.le, HT.out.mod⟩

end Go.Proofs.YtgnpmmhpeianpaaGreatDoor

/- PutText at texts of any size that an argument may have: the program's and the reference's. -/
namespace Go.Proofs.YtgnpmmhpeianpaaGreatDoor
open Go.RowKit

set_option maxRecDepth 100000 in
set_option maxHeartbeats 400000 in
theorem putText_big (A : Option Addr) (n c : Nat) (l : List UInt8) (s : ByteArray) (w : World) (h : Rd w A n (by8 l)) (hn0 : n ≤ 140737488351232) (hn : n + s.size ≤ 140737488353000) :
    Calls Tryz.prog 26 #[.slice A n c, .string s] w fun e w' => ∃ A' n' c', e = .returned (.slice A' n' c') ∧ n' = (l ++ textB s.data.toList).length ∧ Rd w' A' n' (by8 (l ++ textB s.data.toList)) ∧ n' ≤ c' ∧ c' ≤ 9223372036854775807 ∧ Mod Non w w' := by
  have hll : l.length = n := by simpa using h.1
  have hsz : s.data.toList.length = s.size := Array.length_toList
  have h9 := nB_len (s.size : Int)
  obtain ⟨R, hR⟩ : ∃ R, l ++ textB s.data.toList = R := ⟨_, rfl⟩
  have hRe : (l ++ nB (s.size : Int)) ++ s.data.toList = R := by rw [← hR]; unfold textB; rw [hsz, List.append_assoc]
  have hRl : n + (nB (s.size : Int)).length + s.size = R.length := by rw [← hRe]; simp [hll]; omega
  rw [hR]
  have hpn := putNum_any A n c l (s.size : Int) w h (by omega)
  obtain ⟨L, hL⟩ : ∃ L, nB (s.size : Int) = L := ⟨_, rfl⟩
  have hL2 : numB (clampN (s.size : Int)) = L := hL
  rw [hL2] at hpn
  rw [hL] at h9 hRe hRl
  have HPN := Lib.hid hpn
  have HRE := Lib.hid hRe
  have HRL := Lib.hid hRl
  clear hpn hL hL2 hR hRe hRl hsz h hll
  go_enter Tryz.func26, Tryz.ntmps26
  go_wp2_with fail
  refine HPN.out.mono ?_
  rintro e w1 ⟨A1, c1, rfl, ho1, hb1⟩
  have hr1 := Rd.of_own ho1
  have HR1 := Lib.hid hr1
  have HM1 := Lib.hid (Mod.of_below (S := Non) hb1)
  clear hr1 ho1 hb1
  go_wp2_with fail
  refine (laidS_any A1 (n + L.length) c1 (l ++ L) s _ HR1.out (by omega)).mono ?_
  rintro e w2 ⟨A2, c2, rfl, ho2, hc1, hc2, hb2⟩
  have hr2 := Rd.of_own ho2
  have HR2 := Lib.hid hr2
  have HM2 := Lib.hid (HM1.out.trans0 (Mod.of_below (S := Non) hb2))
  clear hr2 ho2 hb2
  go_wp2_with fail
  go_ret
  refine ⟨A2, n + L.length + s.size, c2, rfl, HRL.out, ?_, hc1, hc2, HM2.out⟩
  have := HR2.out
  rwa [HRE.out] at this


set_option maxRecDepth 100000 in
set_option maxHeartbeats 400000 in
theorem putTextR_big (A : Option Addr) (n c : Nat) (l : List UInt8) (s : ByteArray) (w : World) (h : Rd w A n (by8 l)) (hn0 : n ≤ 140737488351232) (hn : n + s.size ≤ 140737488353000) :
    Calls Tryz.prog 29 #[.slice A n c, .string s] w fun e w' => ∃ A' n' c', e = .returned (.slice A' n' c') ∧ n' = (l ++ textB s.data.toList).length ∧ n' ≤ n + 9 + s.size ∧ Rd w' A' n' (by8 (l ++ textB s.data.toList)) ∧ n' ≤ c' ∧ c' ≤ 9223372036854775807 ∧ Mod Non w w' := by
  have hll : l.length = n := by simpa using h.1
  have hsz : s.data.toList.length = s.size := Array.length_toList
  have h9 := nB_len (s.size : Int)
  obtain ⟨R, hR⟩ : ∃ R, l ++ textB s.data.toList = R := ⟨_, rfl⟩
  have hRe : (l ++ nB (s.size : Int)) ++ s.data.toList = R := by rw [← hR]; unfold textB; rw [hsz, List.append_assoc]
  have hRl : n + (nB (s.size : Int)).length + s.size = R.length := by rw [← hRe]; simp [hll]; omega
  rw [hR]
  have hpn := putNumR_any A n c l (s.size : Int) w h (by omega)
  obtain ⟨L, hL⟩ : ∃ L, nB (s.size : Int) = L := ⟨_, rfl⟩
  have hL2 : numB (clampN (s.size : Int)) = L := hL
  rw [hL2] at hpn
  rw [hL] at h9 hRe hRl
  have HPN := Lib.hid hpn
  have HRE := Lib.hid hRe
  have HRL := Lib.hid hRl
  have hmx : maxLen = 9223372036854775807 := rfl
  obtain ⟨i, hi, hz, h1, h2⟩ := bt.info
  clear hpn hL hL2 hR hRe hRl hsz h hll
  go_enter Tryz.func29, Tryz.ntmps29
  go_wp2_with (first
    | (go_at_call 56; refine HPN.out.mono ?_; rintro e w1 ⟨A1, c1, rfl, ho1, hb1⟩)
    | (at_builtin; refine Lib.wpList_append_own_string _ rfl (.tmp 8) (.tmp 9) 27 9 rfl w.heap.size 5 i Tryz.underlying27 Tryz.underlying9 hi hz h1 h2 (.slice A1 (n + L.length) c1) (n + L.length) (by8 (l ++ L)) rfl ho1 s rfl (by omega) (by omega) hb1.size ?_; intro v' w' hown' hg' hnil'))
  obtain ⟨A', c', rfl, hc1, hc2⟩ := own_slice hown'
  go_ret
  rw [strCells_by8, ← by8_append, HRE.out] at hown'
  exact ⟨A', _, c', rfl, HRL.out, by omega, Rd.of_own hown', hc1, by omega, Mod.of_below (hb1.grown hg' hb1.size (fun j hj => (ho1.lt j hj).1))⟩

end Go.Proofs.YtgnpmmhpeianpaaGreatDoor
