/- cat.none, cat.framed, cat.Load. -/
import Derived.Test.YtdpjnpjmokncdaaGreatDoorB20
import Derived.Test.YtdpjnpjmokncdaaGreatDoorB33
import Derived.Test.YtdpjnpjmokncdaaGreatDoorB10
import Derived.Test.YtdpjnpjmokncdaaGreatDoorB12
import Derived.Test.YtdpjnpjmokncdaaGreatDoorB23
import Derived.Test.YtdpjnpjmokncdaaGreatDoorB21
import Derived.Test.YtdpjnpjmokncdaaGreatDoorB36
namespace Go.Proofs.YtdpjnpjmokncdaaGreatDoor
open Go.RowKit

def curN : ByteArray := ⟨#[99, 117, 114]⟩
def manP : ByteArray := ⟨#[109, 97, 110, 47]⟩
theorem curN_named : named curN = true := by decide +kernel

set_option maxRecDepth 100000 in
set_option maxHeartbeats 400000 in
theorem noneC_any (F : Nat → Prop) (d : Nat) (D : Dk) (w : World) (h : DiskIs w F d D) (ok : DkOk D) :
    Calls Tryz.prog 32 #[.pointer (some ⟨d, 0, none⟩)] w fun e w' => e = .returned (.bool false) ∧ Mod Non w w' := by
  have hr := read_any curN F d D w h ok (by decide)
  cases hf : findF D.files curN with
  | none =>
    have hc : Calls Tryz.prog 74 #[.pointer (some ⟨d, 0, none⟩), .string curN] w fun e w' => e = .returned (.tuple #[.slice none 0 0, .int .i64 3]) ∧ Mod Non w w' := hr.mono fun e w' hp => by
      unfold RdPost at hp; rw [if_pos curN_named, hf] at hp; exact hp
    have HC := Lib.hid hc
    clear hc hr hf
    unfold curN at HC
    go_enter Tryz.func32, Tryz.ntmps32
    go_wp2_with (go_at_call 74; refine HC.out.mono ?_; rintro e w1 ⟨rfl, hm1⟩)
    go_ret
    exact ⟨rfl, hm1⟩
  | some f =>
    have hc : Calls Tryz.prog 74 #[.pointer (some ⟨d, 0, none⟩), .string curN] w fun e w' => ∃ A c n, e = .returned (.tuple #[.slice A n c, .int .i64 0]) ∧ Mod Non w w' := hr.mono fun e w' hp => by
      unfold RdPost at hp; rw [if_pos curN_named, hf] at hp
      obtain ⟨A, c, h1, _, h2⟩ := hp
      exact ⟨A, c, _, h1, h2⟩
    have HC := Lib.hid hc
    clear hc hr hf
    unfold curN at HC
    go_enter Tryz.func32, Tryz.ntmps32
    go_wp2_with (go_at_call 74; refine HC.out.mono ?_; rintro e w1 ⟨A1, c1, n1, rfl, hm1⟩)
    go_ret
    exact ⟨rfl, hm1⟩

set_option maxRecDepth 100000 in
set_option maxHeartbeats 400000 in
theorem noneC_nil (w : World) : Calls Tryz.prog 32 #[.pointer none] w fun e w' => e = .returned (.bool true) ∧ w = w' := by
  have HC := Lib.hid (read_nil curN w (by decide))
  unfold curN at HC
  go_enter Tryz.func32, Tryz.ntmps32
  go_wp2_with (go_at_call 74; refine HC.out.mono ?_; rintro e w1 ⟨rfl, rfl⟩)
  go_ret
  exact ⟨rfl, rfl⟩

/-- the one whole frame that a file is, none where it is not. -/
def framedP (D : Dk) (nm : ByteArray) : Option (List UInt8) := if named nm = true then
  match findF D.files nm with
  | none => none
  | some f => match takeFrame f.bytes 1073741824 with
    | some (b, []) => some b
    | _ => none
  else none

def FrB (o : Option (List UInt8)) (b : Bool) (l : List UInt8) : Prop := match o with
  | some x => l = x ∧ b = true
  | none => b = false
/-- what framed answers. -/
def FrPost (D : Dk) (nm : ByteArray) (w : World) (e : Ending) (w' : World) : Prop :=
  ∃ A n c b l, e = .returned (.tuple #[.slice A n c, .bool b]) ∧ Mod Non w w' ∧ Rd w' A n (by8 l) ∧ n ≤ c ∧ c ≤ 9223372036854775807 ∧ n ≤ 140737488351232 ∧ FrB (framedP D nm) b l

set_option maxRecDepth 100000 in
set_option maxHeartbeats 2000000 in
theorem framed_any (nm : ByteArray) (F : Nat → Prop) (d : Nat) (D : Dk) (w : World) (h : DiskIs w F d D) (ok : DkOk D) (hs : nm.size ≤ 9223372036854775807) :
    Calls Tryz.prog 44 #[.pointer (some ⟨d, 0, none⟩), .string nm] w (FrPost D nm w) := by
  have hr := read_any nm F d D w h ok hs
  -- a read that gives nothing
  have hbad : ∀ q, q ≠ 0 → framedP D nm = none → Calls Tryz.prog 74 #[.pointer (some ⟨d, 0, none⟩), .string nm] w (fun e w' => e = .returned (.tuple #[.slice none 0 0, .int .i64 q]) ∧ Mod Non w w') →
      Calls Tryz.prog 44 #[.pointer (some ⟨d, 0, none⟩), .string nm] w (FrPost D nm w) := by
    intro q hq hfp hc
    have HC := Lib.hid hc
    have HFP := Lib.hid hfp
    have hq1 : decide (q = 0) = false := decide_eq_false hq
    have hq2 : (q == 0) = false := by simpa using hq
    have htf : takeFrame [] 1073741824 = none := rfl
    have ht : ∀ W, Calls Tryz.prog 84 #[.slice none 0 0, .int .i64 1073741824] W fun e w' => e = .returned (.tuple #[.slice none 0 0, .slice none 0 0, .int .i64 2]) ∧ Mod Non W w' := fun W =>
      (takeFrame_any none 0 0 [] 1073741824 W (Rd.nil _ _) (by omega) (by omega) (by omega)).mono fun e w' h => by
        unfold TfPost at h
        rw [htf] at h
        exact ⟨h.1, Mod.of_below h.2⟩
    have HT := Lib.hid ht
    clear hc hfp ht htf hr
    go_enter Tryz.func44, Tryz.ntmps44
    go_wp2_with fail
    refine HC.out.mono ?_
    rintro e w1 ⟨rfl, hm1⟩
    have HM1 := Lib.hid hm1
    clear hm1
    go_wp2_with fail
    refine (HT.out w1).mono ?_
    rintro e w2 ⟨rfl, hm2⟩
    have HM2 := Lib.hid (HM1.out.trans0 hm2)
    clear hm2
    go_wp2_with fail
    go_ret2
    exact ⟨none, 0, 0, false, [], rfl, HM2.out, Rd.nil _ _, by omega, by omega, by omega, by rw [HFP.out]; exact (rfl : false = false)⟩
  by_cases hn : named nm = true
  · cases hf : findF D.files nm with
    | none =>
      refine hbad 3 (by omega) (by unfold framedP; rw [if_pos hn, hf]) (hr.mono fun e w' hp => ?_)
      unfold RdPost at hp
      rw [if_pos hn, hf] at hp
      exact hp
    | some f =>
      have hfl : f.bytes.length ≤ 140737488351232 := by have := (find_len ok hf).1; omega
      have hc : Calls Tryz.prog 74 #[.pointer (some ⟨d, 0, none⟩), .string nm] w fun e w' => ∃ A c n, n = f.bytes.length ∧ e = .returned (.tuple #[.slice A n c, .int .i64 0]) ∧ Rd w' A n (by8 f.bytes) ∧ n ≤ c ∧ c ≤ 9223372036854775807 ∧ Mod Non w w' := hr.mono fun e w' hp => by
        unfold RdPost at hp
        rw [if_pos hn, hf] at hp
        obtain ⟨A, c, h1, h3, h2⟩ := hp
        obtain ⟨A', c', he, h4, h5⟩ := own_slice h3
        cases he
        exact ⟨A, c, _, rfl, h1, Rd.of_own h3, h4, h5, h2⟩
      have HC := Lib.hid hc
      have hfr : framedP D nm = (match takeFrame f.bytes 1073741824 with | some (b, []) => some b | _ => none) := by unfold framedP; rw [if_pos hn, hf]
      cases htf : takeFrame f.bytes 1073741824 with
      | none =>
        rw [htf] at hfr
        simp only at hfr
        have HFR := Lib.hid hfr
        have HTF := Lib.hid htf
        have HFL := Lib.hid hfl
        clear hc hfr htf hr hbad hf hfl
        go_enter Tryz.func44, Tryz.ntmps44
        go_wp2_with fail
        refine HC.out.mono ?_
        rintro e w1 ⟨A1, c1, n1, hn1, rfl, hr1, hc1, hc2, hm1⟩
        have HM1 := Lib.hid hm1
        have hle : n1 ≤ 140737488351232 := by rw [hn1]; exact HFL.out
        have HTT := Lib.hid (takeFrame_any A1 n1 c1 f.bytes 1073741824 w1 hr1 hc1 hle hc2)
        clear hm1 hr1 hn1
        go_wp2_with fail
        refine HTT.out.mono ?_
        unfold TfPost
        rw [HTF.out]
        rintro e w2 ⟨rfl, hm2⟩
        have HM2 := Lib.hid (HM1.out.trans0 (Mod.of_below hm2))
        clear hm2
        go_wp2_with fail
        go_ret2
        exact ⟨none, 0, 0, false, [], rfl, HM2.out, Rd.nil _ _, by omega, by omega, by omega, by rw [HFR.out]; exact (rfl : false = false)⟩
      | some p =>
        obtain ⟨body, rest⟩ := p
        rw [htf] at hfr
        have HTF := Lib.hid htf
        have HFL := Lib.hid hfl
        have hbl := (takeFrame_lt htf).2
        have HBL := Lib.hid hbl
        obtain ⟨r, hrl⟩ : ∃ r, rest.length = r := ⟨_, rfl⟩
        obtain ⟨bq, hbq⟩ : ∃ bq : Bool, decide (r = 0) = bq := ⟨_, rfl⟩
        have hfr2 : FrB (framedP D nm) bq body := by
          rw [hfr]
          unfold FrB
          cases rest with
          | nil => simp only [List.length_nil] at hrl; subst hrl; simp at hbq; simp [hbq]
          | cons a t => simp only [List.length_cons] at hrl; subst hrl; simp at hbq; simp [hbq]
        have HFR := Lib.hid hfr2
        have HRL := Lib.hid hrl
        obtain ⟨bn, hbn⟩ : ∃ bn, body.length = bn := ⟨_, rfl⟩
        have HBN := Lib.hid hbn
        clear hc hfr hfr2 htf hr hbad hf hfl hbl hrl hbn
        go_enter Tryz.func44, Tryz.ntmps44
        go_wp2_with fail
        refine HC.out.mono ?_
        rintro e w1 ⟨A1, c1, n1, hn1, rfl, hr1, hc1, hc2, hm1⟩
        have HM1 := Lib.hid hm1
        have HN1 := Lib.hid hn1
        have hle : n1 ≤ 140737488351232 := by rw [hn1]; exact HFL.out
        have HTT := Lib.hid (takeFrame_any A1 n1 c1 f.bytes 1073741824 w1 hr1 hc1 hle hc2)
        clear hm1 hr1 hn1
        go_wp2_with fail
        refine HTT.out.mono ?_
        unfold TfPost
        rw [HTF.out]
        simp only
        rw [HRL.out, HBN.out]
        rintro e w2 ⟨A2, c2, B2, d2, rfl, ho2, _, _, _, _, hm2⟩
        obtain ⟨A2', c2', he, hc21, hc22⟩ := own_slice ho2
        cases he
        have HM2 := Lib.hid (HM1.out.trans0 (Mod.of_below hm2))
        have HR2 := Lib.hid (Rd.of_own ho2)
        have hmx : maxLen = 9223372036854775807 := rfl
        have hbn2 : bn ≤ 140737488351232 := by
          have h1 := HBL.out
          have h2 := HBN.out
          have h3 := HFL.out
          omega
        clear hm2 ho2
        cases bq with
        | true =>
          have hr0 : r = 0 := of_decide_eq_true hbq
          subst hr0
          clear hbq
          go_wp2_with fail
          go_ret2
          exact ⟨A2, bn, c2, true, body, rfl, HM2.out, HR2.out, hc21, by omega, hbn2, HFR.out⟩
        | false =>
          have hr0 : ¬ r = 0 := of_decide_eq_false hbq
          have hr1 : ((r : Int) == 0) = false := by simp; omega
          have hr2 : decide ((r : Int) = 0) = false := decide_eq_false (by omega)
          clear hbq
          go_wp2_with fail
          go_ret2
          exact ⟨A2, bn, c2, false, body, rfl, HM2.out, HR2.out, hc21, by omega, hbn2, HFR.out⟩
  · refine hbad 1 (by omega) (by unfold framedP; rw [if_neg hn]) (hr.mono fun e w' hp => ?_)
    unfold RdPost at hp
    rw [if_neg hn] at hp
    exact hp

end Go.Proofs.YtdpjnpjmokncdaaGreatDoor

/- cat.Load. -/
namespace Go.Proofs.YtdpjnpjmokncdaaGreatDoor
open Go.RowKit

def zeroV : Vs := ⟨0, 0, 0, 0, []⟩
theorem zeroVw (w : World) : VwOk w ⟨0, 0, 0, 0, none, 0, []⟩ := ⟨Rd.nil _ _, Nat.le_refl _, by show (0 : Nat) ≤ 9223372036854775807; omega, fun m hm => by cases hm⟩
/-- the version that a disk holds, none where it is broken. -/
def loadV (D : Dk) : Option Vs := match findF D.files curN with
  | none => some zeroV
  | some _ => match framedP D curN with
    | none => none
    | some b => match takeNum b with
      | some (g, []) => match framedP D (foldN manP (g : Int)) with
        | none => none
        | some mb => match decV mb with
          | none => none
          | some v => if v.gen = (g : Int) then some v else none
      | _ => none

/-- what Load answers. -/
def LoPost (D : Dk) (w : World) (e : Ending) (w' : World) : Prop := match loadV D with
  | some v => ∃ x : Vw, x.v = v ∧ e = .returned (.tuple #[x.val, .int .i64 0]) ∧ VwOk w' x ∧ (∀ (S : Nat → Prop) w'', (∀ i, S i → i < w.heap.size) → Mod S w' w'' → VwOk w'' x) ∧ Mod Non w w'
  | none => e = .returned (.tuple #[.agg #[.int .i64 0, .int .i64 0, .int .i64 0, .int .i64 0, .slice none 0 0], .int .i64 2]) ∧ Mod Non w w'

set_option maxRecDepth 100000 in
set_option maxHeartbeats 8000000 in
theorem loadC_any (F : Nat → Prop) (d : Nat) (D : Dk) (w : World) (h : DiskIs w F d D) (ok : DkOk D) :
    Calls Tryz.prog 13 #[.pointer (some ⟨d, 0, none⟩)] w (LoPost D w) := by
  have hm0 : Mod Non w (w.alloc (.cells #[.int .i64 0, .int .i64 0, .int .i64 0, .int .i64 0, .slice none 0 0] 34)) := (Mod.refl Non w).alloc _
  have hz0 : Blk (w.alloc (.cells #[.int .i64 0, .int .i64 0, .int .i64 0, .int .i64 0, .slice none 0 0] 34)) w.heap.size 34 #[.int .i64 0, .int .i64 0, .int .i64 0, .int .i64 0, .slice none 0 0] := Blk.new _ _ _
  have hall : ∀ W, Mod Non (w.alloc (.cells #[.int .i64 0, .int .i64 0, .int .i64 0, .int .i64 0, .slice none 0 0] 34)) W → Blk W w.heap.size 34 #[.int .i64 0, .int .i64 0, .int .i64 0, .int .i64 0, .slice none 0 0] := fun W hW => hz0.mod hW fun h => h
  have HALL := Lib.hid hall
  have HM0 := Lib.hid hm0
  have HD := Lib.hid h
  have HO := Lib.hid ok
  have HL := Lib.hid h.lay
  clear h ok hm0 hz0 hall
  have hno : loadV D = none → ∀ w', Mod Non w w' → LoPost D w (.returned (.tuple #[.agg #[.int .i64 0, .int .i64 0, .int .i64 0, .int .i64 0, .slice none 0 0], .int .i64 2])) w' := fun hh w' hw => by
    unfold LoPost
    rw [hh]
    exact ⟨rfl, hw⟩
  have HNO := Lib.hid hno
  clear hno
  have hN := noneC_any F d D _ (HD.out.mod0 HM0.out) HO.out
  have HN := Lib.hid hN
  clear hN
  cases hf : findF D.files curN with
  | none =>
    have hl : loadV D = some zeroV := by unfold loadV; rw [hf]
    have hyes : ∀ w', Mod Non w w' → LoPost D w (.returned (.tuple #[.agg #[.int .i64 0, .int .i64 0, .int .i64 0, .int .i64 0, .slice none 0 0], .int .i64 0])) w' := fun w' hw => by
      unfold LoPost
      rw [hl]
      exact ⟨⟨0, 0, 0, 0, none, 0, []⟩, rfl, rfl, zeroVw _, fun _ w'' _ _ => zeroVw w'', hw⟩
    have HYES := Lib.hid hyes
    have hh : ∀ W, Mod Non w W → Calls Tryz.prog 24 #[.pointer (some ⟨d, 0, none⟩), .string ⟨#[99, 117, 114]⟩] W fun e w' => e = .returned (.bool false) ∧ Mod Non W w' := fun W hW =>
      (has_any curN F d D W (HD.out.mod0 hW)).mono fun e w' h => by rw [hf] at h; exact h
    have HH := Lib.hid hh
    clear hl hyes hh hf
    go_enter Tryz.func13, Tryz.ntmps13
    go_wp2_with fail
    refine HN.out.mono ?_
    rintro e w1 ⟨rfl, hm1⟩
    have HM1 := Lib.hid hm1
    clear hm1
    go_wp2_with fail
    refine (HH.out w1 (HM0.out.trans0 HM1.out)).mono ?_
    rintro e w2 ⟨rfl, hm2⟩
    have HM2 := Lib.hid (HM1.out.trans0 hm2)
    clear hm2
    obtain HZ := Lib.hid (HALL.out w2 HM2.out)
    have y00 : w2.cell? ⟨w.heap.size, 0, none⟩ = some (.int .i64 0) := HZ.out.cell 0
    have f0 := HZ.out.frozen 0
    have y01 : w2.cell? ⟨w.heap.size, 1, none⟩ = some (.int .i64 0) := HZ.out.cell 1
    have f1 := HZ.out.frozen 1
    have y02 : w2.cell? ⟨w.heap.size, 2, none⟩ = some (.int .i64 0) := HZ.out.cell 2
    have f2 := HZ.out.frozen 2
    have y03 : w2.cell? ⟨w.heap.size, 3, none⟩ = some (.int .i64 0) := HZ.out.cell 3
    have f3 := HZ.out.frozen 3
    have y04 : w2.cell? ⟨w.heap.size, 4, none⟩ = some (.slice none 0 0) := HZ.out.cell 4
    have f4 := HZ.out.frozen 4
    go_wp2_with fail
    refine bodyPost_ret (results_rowtmp rfl _ _ w.heap.size 34 _ _ rfl (HZ.out.five _ _ _ _ _) Tryz.underlying34 rfl (by kernel_rfl) (.int .i64 0) rfl) rfl ?_
    exact HYES.out _ (set5 (HM0.out.trans0 HM2.out) _ _ _ _ _)
  | some f0 =>
    have hl : loadV D = (match framedP D curN with
      | none => none
      | some b => match takeNum b with
        | some (g, []) => match framedP D (foldN manP (g : Int)) with
          | none => none
          | some mb => match decV mb with
            | none => none
            | some v => if v.gen = (g : Int) then some v else none
        | _ => none) := by unfold loadV; rw [hf]
    have hh : ∀ W, Mod Non w W → Calls Tryz.prog 24 #[.pointer (some ⟨d, 0, none⟩), .string ⟨#[99, 117, 114]⟩] W fun e w' => e = .returned (.bool true) ∧ Mod Non W w' := fun W hW =>
      (has_any curN F d D W (HD.out.mod0 hW)).mono fun e w' h => by rw [hf] at h; exact h
    have HH := Lib.hid hh
    have HL2 := Lib.hid hl
    clear hl hh hf
    have hfr : ∀ W, Mod Non w W → Calls Tryz.prog 44 #[.pointer (some ⟨d, 0, none⟩), .string ⟨#[99, 117, 114]⟩] W (FrPost D curN W) := fun W hW => framed_any curN F d D W (HD.out.mod0 hW) HO.out (by decide)
    have HFR := Lib.hid hfr
    clear hfr
    -- the steps up to takeNum
    cases hfp : framedP D curN with
    | none =>
      rw [hfp] at HL2
      have HNO2 := Lib.hid (HNO.out HL2.out)
      have HFP := Lib.hid hfp
      clear hfp
      go_enter Tryz.func13, Tryz.ntmps13
      go_wp2_with fail
      refine HN.out.mono ?_
      rintro e w1 ⟨rfl, hm1⟩
      have HM1 := Lib.hid hm1
      clear hm1
      go_wp2_with fail
      refine (HH.out w1 (HM0.out.trans0 HM1.out)).mono ?_
      rintro e w2 ⟨rfl, hm2⟩
      have HM2 := Lib.hid (HM1.out.trans0 hm2)
      clear hm2
      go_wp2_with fail
      refine (HFR.out w2 (HM0.out.trans0 HM2.out)).mono ?_
      rintro e w3 ⟨A3, n3, c3, b3, l3, rfl, hm3, hr3, hc31, hc32, hn3, hb3⟩
      rw [HFP.out] at hb3
      have hb3' : b3 = false := hb3
      subst hb3'
      have HM3 := Lib.hid (HM2.out.trans0 hm3)
      have HTN := Lib.hid (takeNum_any A3 n3 c3 l3 w3 hr3 hc31 (by omega) hc32)
      clear hm3 hr3
      go_wp2_with fail
      refine HTN.out.mono ?_
      unfold TnPost
      cases htn : takeNum l3 with
      | none =>
        rintro e w4 ⟨rfl, rfl⟩
        clear htn
        obtain HZ := Lib.hid (HALL.out w3 HM3.out)
        have y00 : w3.cell? ⟨w.heap.size, 0, none⟩ = some (.int .i64 0) := HZ.out.cell 0
        have f0 := HZ.out.frozen 0
        have y01 : w3.cell? ⟨w.heap.size, 1, none⟩ = some (.int .i64 0) := HZ.out.cell 1
        have f1 := HZ.out.frozen 1
        have y02 : w3.cell? ⟨w.heap.size, 2, none⟩ = some (.int .i64 0) := HZ.out.cell 2
        have f2 := HZ.out.frozen 2
        have y03 : w3.cell? ⟨w.heap.size, 3, none⟩ = some (.int .i64 0) := HZ.out.cell 3
        have f3 := HZ.out.frozen 3
        have y04 : w3.cell? ⟨w.heap.size, 4, none⟩ = some (.slice none 0 0) := HZ.out.cell 4
        have f4 := HZ.out.frozen 4
        go_wp2_with fail
        refine bodyPost_ret (results_rowtmp rfl _ _ w.heap.size 34 _ _ rfl (HZ.out.five _ _ _ _ _) Tryz.underlying34 rfl (by kernel_rfl) (.int .i64 2) rfl) rfl ?_
        exact HNO2.out _ (set5 (HM0.out.trans0 HM3.out) _ _ _ _ _)
      | some p =>
        obtain ⟨m, rest⟩ := p
        obtain ⟨q, hq⟩ : ∃ q, rest.length = q := ⟨_, rfl⟩
        simp only
        rw [hq]
        rintro e w4 ⟨A4, c4, rfl, ho4, hb4⟩
        have HM4 := Lib.hid (HM3.out.trans0 (Mod.of_below hb4))
        clear htn ho4 hb4 hq
        obtain HZ := Lib.hid (HALL.out w4 HM4.out)
        have y00 : w4.cell? ⟨w.heap.size, 0, none⟩ = some (.int .i64 0) := HZ.out.cell 0
        have f0 := HZ.out.frozen 0
        have y01 : w4.cell? ⟨w.heap.size, 1, none⟩ = some (.int .i64 0) := HZ.out.cell 1
        have f1 := HZ.out.frozen 1
        have y02 : w4.cell? ⟨w.heap.size, 2, none⟩ = some (.int .i64 0) := HZ.out.cell 2
        have f2 := HZ.out.frozen 2
        have y03 : w4.cell? ⟨w.heap.size, 3, none⟩ = some (.int .i64 0) := HZ.out.cell 3
        have f3 := HZ.out.frozen 3
        have y04 : w4.cell? ⟨w.heap.size, 4, none⟩ = some (.slice none 0 0) := HZ.out.cell 4
        have f4 := HZ.out.frozen 4
        go_wp2_with fail
        refine bodyPost_ret (results_rowtmp rfl _ _ w.heap.size 34 _ _ rfl (HZ.out.five _ _ _ _ _) Tryz.underlying34 rfl (by kernel_rfl) (.int .i64 2) rfl) rfl ?_
        exact HNO2.out _ (set5 (HM0.out.trans0 HM4.out) _ _ _ _ _)
    | some x3 =>
      rw [hfp] at HL2
      simp only at HL2
      have HFP := Lib.hid hfp
      clear hfp
      cases htk : takeNum x3 with
      | none =>
        have HTK := Lib.hid htk
        have HNO2 := Lib.hid (HNO.out (by rw [HL2.out, htk]))
        clear htk
        go_enter Tryz.func13, Tryz.ntmps13
        go_wp2_with fail
        refine HN.out.mono ?_
        rintro e w1 ⟨rfl, hm1⟩
        have HM1 := Lib.hid hm1
        clear hm1
        go_wp2_with fail
        refine (HH.out w1 (HM0.out.trans0 HM1.out)).mono ?_
        rintro e w2 ⟨rfl, hm2⟩
        have HM2 := Lib.hid (HM1.out.trans0 hm2)
        clear hm2
        go_wp2_with fail
        refine (HFR.out w2 (HM0.out.trans0 HM2.out)).mono ?_
        rintro e w3 ⟨A3, n3, c3, b3, l3, rfl, hm3, hr3, hc31, hc32, hn3, hb3⟩
        rw [HFP.out] at hb3
        obtain ⟨rfl, rfl⟩ := hb3
        have HM3 := Lib.hid (HM2.out.trans0 hm3)
        have HTN := Lib.hid (takeNum_any A3 n3 c3 l3 w3 hr3 hc31 (by omega) hc32)
        clear hm3 hr3
        go_wp2_with fail
        refine HTN.out.mono ?_
        unfold TnPost
        rw [HTK.out]
        rintro e w4 ⟨rfl, rfl⟩
        obtain HZ := Lib.hid (HALL.out w3 HM3.out)
        have y00 : w3.cell? ⟨w.heap.size, 0, none⟩ = some (.int .i64 0) := HZ.out.cell 0
        have f0 := HZ.out.frozen 0
        have y01 : w3.cell? ⟨w.heap.size, 1, none⟩ = some (.int .i64 0) := HZ.out.cell 1
        have f1 := HZ.out.frozen 1
        have y02 : w3.cell? ⟨w.heap.size, 2, none⟩ = some (.int .i64 0) := HZ.out.cell 2
        have f2 := HZ.out.frozen 2
        have y03 : w3.cell? ⟨w.heap.size, 3, none⟩ = some (.int .i64 0) := HZ.out.cell 3
        have f3 := HZ.out.frozen 3
        have y04 : w3.cell? ⟨w.heap.size, 4, none⟩ = some (.slice none 0 0) := HZ.out.cell 4
        have f4 := HZ.out.frozen 4
        go_wp2_with fail
        refine bodyPost_ret (results_rowtmp rfl _ _ w.heap.size 34 _ _ rfl (HZ.out.five _ _ _ _ _) Tryz.underlying34 rfl (by kernel_rfl) (.int .i64 2) rfl) rfl ?_
        exact HNO2.out _ (set5 (HM0.out.trans0 HM3.out) _ _ _ _ _)
      | some p =>
        obtain ⟨m, rest⟩ := p
        have hm62 := (takeNum_spec htk).2
        have HTK := Lib.hid htk
        cases rest with
        | cons a tl =>
          have HNO2 := Lib.hid (HNO.out (by rw [HL2.out, htk]))
          obtain ⟨q, hq⟩ : ∃ q, (a :: tl).length = q + 1 := ⟨tl.length, rfl⟩
          have HQ := Lib.hid hq
          have hq0 : decide ((0 : Int) < ((q + 1 : Nat) : Int)) = true := decide_eq_true (by omega)
          clear htk hq
          go_enter Tryz.func13, Tryz.ntmps13
          go_wp2_with fail
          refine HN.out.mono ?_
          rintro e w1 ⟨rfl, hm1⟩
          have HM1 := Lib.hid hm1
          clear hm1
          go_wp2_with fail
          refine (HH.out w1 (HM0.out.trans0 HM1.out)).mono ?_
          rintro e w2 ⟨rfl, hm2⟩
          have HM2 := Lib.hid (HM1.out.trans0 hm2)
          clear hm2
          go_wp2_with fail
          refine (HFR.out w2 (HM0.out.trans0 HM2.out)).mono ?_
          rintro e w3 ⟨A3, n3, c3, b3, l3, rfl, hm3, hr3, hc31, hc32, hn3, hb3⟩
          rw [HFP.out] at hb3
          obtain ⟨rfl, rfl⟩ := hb3
          have HM3 := Lib.hid (HM2.out.trans0 hm3)
          have HTN := Lib.hid (takeNum_any A3 n3 c3 l3 w3 hr3 hc31 (by omega) hc32)
          clear hm3 hr3
          go_wp2_with fail
          refine HTN.out.mono ?_
          unfold TnPost
          rw [HTK.out]
          simp only
          rw [HQ.out]
          rintro e w4 ⟨A4, c4, rfl, ho4, hb4⟩
          have HM4 := Lib.hid (HM3.out.trans0 (Mod.of_below hb4))
          clear ho4 hb4
          obtain HZ := Lib.hid (HALL.out w4 HM4.out)
          have y00 : w4.cell? ⟨w.heap.size, 0, none⟩ = some (.int .i64 0) := HZ.out.cell 0
          have f0 := HZ.out.frozen 0
          have y01 : w4.cell? ⟨w.heap.size, 1, none⟩ = some (.int .i64 0) := HZ.out.cell 1
          have f1 := HZ.out.frozen 1
          have y02 : w4.cell? ⟨w.heap.size, 2, none⟩ = some (.int .i64 0) := HZ.out.cell 2
          have f2 := HZ.out.frozen 2
          have y03 : w4.cell? ⟨w.heap.size, 3, none⟩ = some (.int .i64 0) := HZ.out.cell 3
          have f3 := HZ.out.frozen 3
          have y04 : w4.cell? ⟨w.heap.size, 4, none⟩ = some (.slice none 0 0) := HZ.out.cell 4
          have f4 := HZ.out.frozen 4
          go_wp2_with fail
          refine bodyPost_ret (results_rowtmp rfl _ _ w.heap.size 34 _ _ rfl (HZ.out.five _ _ _ _ _) Tryz.underlying34 rfl (by kernel_rfl) (.int .i64 2) rfl) rfl ?_
          exact HNO2.out _ (set5 (HM0.out.trans0 HM4.out) _ _ _ _ _)
        | nil =>
          rw [htk] at HL2
          simp only at HL2
          clear htk
          obtain ⟨nm, hnm⟩ : ∃ nm, foldN manP (m : Int) = nm := ⟨_, rfl⟩
          have hns : nm.size ≤ 9223372036854775807 := by
            rw [← hnm]
            by_cases hr : 0 ≤ (m : Int) ∧ (m : Int) ≤ 1099511627776
            · rw [foldN_size hr]; decide
            · rw [foldN_0 hr]; omega
          rw [hnm] at HL2
          have hfo : ∀ W, Mod Non w W → Calls Tryz.prog 36 #[.string ⟨#[109, 97, 110, 47]⟩, .int .i64 (m : Int)] W fun e w' => e = .returned (.string nm) ∧ Mod Non W w' := fun W hW => by
            have := fold_any manP (m : Int) W (HL.out.mod0 hW) (by decide)
            rw [hnm] at this
            exact this
          have hf2 : ∀ W, Mod Non w W → Calls Tryz.prog 44 #[.pointer (some ⟨d, 0, none⟩), .string nm] W (FrPost D nm W) := fun W hW => framed_any nm F d D W (HD.out.mod0 hW) HO.out hns
          have HFO := Lib.hid hfo
          have HF2 := Lib.hid hf2
          clear hfo hf2 hnm hns
          go_enter Tryz.func13, Tryz.ntmps13
          go_wp2_with fail
          refine HN.out.mono ?_
          rintro e w1 ⟨rfl, hm1⟩
          have HM1 := Lib.hid hm1
          clear hm1
          go_wp2_with fail
          refine (HH.out w1 (HM0.out.trans0 HM1.out)).mono ?_
          rintro e w2 ⟨rfl, hm2⟩
          have HM2 := Lib.hid (HM1.out.trans0 hm2)
          clear hm2
          go_wp2_with fail
          refine (HFR.out w2 (HM0.out.trans0 HM2.out)).mono ?_
          rintro e w3 ⟨A3, n3, c3, b3, l3, rfl, hm3, hr3, hc31, hc32, hn3, hb3⟩
          rw [HFP.out] at hb3
          obtain ⟨rfl, rfl⟩ := hb3
          have HM3 := Lib.hid (HM2.out.trans0 hm3)
          have HTN := Lib.hid (takeNum_any A3 n3 c3 l3 w3 hr3 hc31 (by omega) hc32)
          clear hm3 hr3
          go_wp2_with fail
          refine HTN.out.mono ?_
          unfold TnPost
          rw [HTK.out]
          simp only [List.length_nil]
          rintro e w4 ⟨A4, c4, rfl, ho4, hb4⟩
          have HM4 := Lib.hid (HM3.out.trans0 (Mod.of_below hb4))
          clear ho4 hb4
          go_wp2_with fail
          refine (HFO.out w4 (HM0.out.trans0 HM4.out)).mono ?_
          rintro e w5 ⟨rfl, hm5⟩
          have HM5 := Lib.hid (HM4.out.trans0 hm5)
          clear hm5
          go_wp2_with fail
          refine (HF2.out w5 (HM0.out.trans0 HM5.out)).mono ?_
          rintro e w6 ⟨A6, n6, c6, b6, l6, rfl, hm6, hr6, hc61, hc62, hn6, hb6⟩
          have HM6 := Lib.hid (HM5.out.trans0 hm6)
          have HDE := Lib.hid (decode_any A6 n6 c6 l6 w6 hr6 hc61 hc62 hn6)
          have HB6 := Lib.hid hb6
          clear hm6 hr6 hb6
          go_wp2_with fail
          refine HDE.out.mono ?_
          unfold DePost
          cases hdv : decV l6 with
          | none =>
            rintro e w7 ⟨rfl, hm7⟩
            have HM7 := Lib.hid (HM6.out.trans0 hm7)
            have HNO2 := Lib.hid (HNO.out (by
              rw [HL2.out]
              have := HB6.out
              cases h6 : framedP D nm with
              | none => rfl
              | some mb => rw [h6] at this; simp only; rw [← this.1, hdv]))
            clear hm7 hdv
            have HM8 := Lib.hid (HM7.out.alloc (.cells #[.int .i64 0, .int .i64 0, .int .i64 0, .int .i64 0, .slice none 0 0] 34))
            cases b6 with
            | true =>
              obtain HZ := Lib.hid (HALL.out (w7.alloc (.cells #[.int .i64 0, .int .i64 0, .int .i64 0, .int .i64 0, .slice none 0 0] 34)) HM8.out)
              have y00 : (w7.alloc (.cells #[.int .i64 0, .int .i64 0, .int .i64 0, .int .i64 0, .slice none 0 0] 34)).cell? ⟨w.heap.size, 0, none⟩ = some (.int .i64 0) := HZ.out.cell 0
              have f0 := HZ.out.frozen 0
              have y01 : (w7.alloc (.cells #[.int .i64 0, .int .i64 0, .int .i64 0, .int .i64 0, .slice none 0 0] 34)).cell? ⟨w.heap.size, 1, none⟩ = some (.int .i64 0) := HZ.out.cell 1
              have f1 := HZ.out.frozen 1
              have y02 : (w7.alloc (.cells #[.int .i64 0, .int .i64 0, .int .i64 0, .int .i64 0, .slice none 0 0] 34)).cell? ⟨w.heap.size, 2, none⟩ = some (.int .i64 0) := HZ.out.cell 2
              have f2 := HZ.out.frozen 2
              have y03 : (w7.alloc (.cells #[.int .i64 0, .int .i64 0, .int .i64 0, .int .i64 0, .slice none 0 0] 34)).cell? ⟨w.heap.size, 3, none⟩ = some (.int .i64 0) := HZ.out.cell 3
              have f3 := HZ.out.frozen 3
              have y04 : (w7.alloc (.cells #[.int .i64 0, .int .i64 0, .int .i64 0, .int .i64 0, .slice none 0 0] 34)).cell? ⟨w.heap.size, 4, none⟩ = some (.slice none 0 0) := HZ.out.cell 4
              have f4 := HZ.out.frozen 4
              go_wp2_with fail
              refine bodyPost_ret (results_rowtmp rfl _ _ w.heap.size 34 _ _ rfl (HZ.out.five _ _ _ _ _) Tryz.underlying34 rfl (by kernel_rfl) (.int .i64 2) rfl) rfl ?_
              exact HNO2.out _ (set5 (HM0.out.trans0 HM8.out) _ _ _ _ _)
            | false =>
              obtain HZ := Lib.hid (HALL.out (w7.alloc (.cells #[.int .i64 0, .int .i64 0, .int .i64 0, .int .i64 0, .slice none 0 0] 34)) HM8.out)
              have y00 : (w7.alloc (.cells #[.int .i64 0, .int .i64 0, .int .i64 0, .int .i64 0, .slice none 0 0] 34)).cell? ⟨w.heap.size, 0, none⟩ = some (.int .i64 0) := HZ.out.cell 0
              have f0 := HZ.out.frozen 0
              have y01 : (w7.alloc (.cells #[.int .i64 0, .int .i64 0, .int .i64 0, .int .i64 0, .slice none 0 0] 34)).cell? ⟨w.heap.size, 1, none⟩ = some (.int .i64 0) := HZ.out.cell 1
              have f1 := HZ.out.frozen 1
              have y02 : (w7.alloc (.cells #[.int .i64 0, .int .i64 0, .int .i64 0, .int .i64 0, .slice none 0 0] 34)).cell? ⟨w.heap.size, 2, none⟩ = some (.int .i64 0) := HZ.out.cell 2
              have f2 := HZ.out.frozen 2
              have y03 : (w7.alloc (.cells #[.int .i64 0, .int .i64 0, .int .i64 0, .int .i64 0, .slice none 0 0] 34)).cell? ⟨w.heap.size, 3, none⟩ = some (.int .i64 0) := HZ.out.cell 3
              have f3 := HZ.out.frozen 3
              have y04 : (w7.alloc (.cells #[.int .i64 0, .int .i64 0, .int .i64 0, .int .i64 0, .slice none 0 0] 34)).cell? ⟨w.heap.size, 4, none⟩ = some (.slice none 0 0) := HZ.out.cell 4
              have f4 := HZ.out.frozen 4
              go_wp2_with fail
              refine bodyPost_ret (results_rowtmp rfl _ _ w.heap.size 34 _ _ rfl (HZ.out.five _ _ _ _ _) Tryz.underlying34 rfl (by kernel_rfl) (.int .i64 2) rfl) rfl ?_
              exact HNO2.out _ (set5 (HM0.out.trans0 HM8.out) _ _ _ _ _)
          | some v =>
            rintro e w7 ⟨⟨g1, g2, g3, g4, VA, vc, ms⟩, hxv, rfl, hok, hst, hm7⟩
            have HM7 := Lib.hid (HM6.out.trans0 hm7)
            obtain ⟨vn, hvn⟩ : ∃ vn, ms.length = vn := ⟨_, rfl⟩
            unfold Vw.val
            simp only
            rw [hvn]
            have HVN := Lib.hid hvn
            have HST := Lib.hid hst
            have hgen : v.gen = g1 := by rw [← hxv]; rfl
            have HXV := Lib.hid hxv
            have HB8 := Lib.hid (Blk.new w7 34 #[.int .i64 g1, .int .i64 g2, .int .i64 g3, .int .i64 g4, .slice VA vn vc])
            have HM8 := Lib.hid (HM7.out.alloc (.cells #[.int .i64 g1, .int .i64 g2, .int .i64 g3, .int .i64 g4, .slice VA vn vc] 34))
            have hw6 : w.heap.size < w6.heap.size := by
              have h1 := HM6.out.size
              rw [World.size_alloc] at h1
              omega
            cases b6 with
            | false =>
              have HNO2 := Lib.hid (HNO.out (by
                rw [HL2.out]
                have := HB6.out
                cases h6 : framedP D nm with
                | none => rfl
                | some mb => rw [h6] at this; exact absurd this.2 (by simp)))
              clear hm7 hxv hvn hst hgen hok hdv
              obtain HZ := Lib.hid (HALL.out (w7.alloc (.cells #[.int .i64 g1, .int .i64 g2, .int .i64 g3, .int .i64 g4, .slice VA vn vc] 34)) HM8.out)
              have y00 : (w7.alloc (.cells #[.int .i64 g1, .int .i64 g2, .int .i64 g3, .int .i64 g4, .slice VA vn vc] 34)).cell? ⟨w.heap.size, 0, none⟩ = some (.int .i64 0) := HZ.out.cell 0
              have f0 := HZ.out.frozen 0
              have y01 : (w7.alloc (.cells #[.int .i64 g1, .int .i64 g2, .int .i64 g3, .int .i64 g4, .slice VA vn vc] 34)).cell? ⟨w.heap.size, 1, none⟩ = some (.int .i64 0) := HZ.out.cell 1
              have f1 := HZ.out.frozen 1
              have y02 : (w7.alloc (.cells #[.int .i64 g1, .int .i64 g2, .int .i64 g3, .int .i64 g4, .slice VA vn vc] 34)).cell? ⟨w.heap.size, 2, none⟩ = some (.int .i64 0) := HZ.out.cell 2
              have f2 := HZ.out.frozen 2
              have y03 : (w7.alloc (.cells #[.int .i64 g1, .int .i64 g2, .int .i64 g3, .int .i64 g4, .slice VA vn vc] 34)).cell? ⟨w.heap.size, 3, none⟩ = some (.int .i64 0) := HZ.out.cell 3
              have f3 := HZ.out.frozen 3
              have y04 : (w7.alloc (.cells #[.int .i64 g1, .int .i64 g2, .int .i64 g3, .int .i64 g4, .slice VA vn vc] 34)).cell? ⟨w.heap.size, 4, none⟩ = some (.slice none 0 0) := HZ.out.cell 4
              have f4 := HZ.out.frozen 4
              go_wp2_with fail
              refine bodyPost_ret (results_rowtmp rfl _ _ w.heap.size 34 _ _ rfl (HZ.out.five _ _ _ _ _) Tryz.underlying34 rfl (by kernel_rfl) (.int .i64 2) rfl) rfl ?_
              exact HNO2.out _ (set5 (HM0.out.trans0 HM8.out) _ _ _ _ _)
            | true =>
              have hfq : framedP D nm = some l6 := by
                have := HB6.out
                cases h6 : framedP D nm with
                | none => rw [h6] at this; exact absurd (show true = false from this) (by simp)
                | some mb => rw [h6] at this; rw [this.1]
              have k0 : (w7.alloc (.cells #[.int .i64 g1, .int .i64 g2, .int .i64 g3, .int .i64 g4, .slice VA vn vc] 34)).cell? ⟨w7.heap.size, 0, none⟩ = some (.int .i64 g1) := HB8.out.cell 0
              by_cases hgm : g1 = (m : Int)
              · have hl : loadV D = some v := by
                  rw [HL2.out, hfq]
                  simp only
                  rw [hdv]
                  simp only
                  rw [if_pos (by rw [hgen, hgm])]
                have hyes : ∀ w', Mod (fun i => i = w.heap.size) w7 w' → Mod Non w w' → LoPost D w (.returned (.tuple #[.agg #[.int .i64 g1, .int .i64 g2, .int .i64 g3, .int .i64 g4, .slice VA vn vc], .int .i64 0])) w' := fun w' h1 h2 => by
                  unfold LoPost
                  rw [hl]
                  refine ⟨⟨g1, g2, g3, g4, VA, vc, ms⟩, HXV.out, ?_, HST.out _ _ (fun i h => by omega) h1, ?_, h2⟩
                  · unfold Vw.val
                    simp only
                    rw [HVN.out]
                  · intro S w'' hS hm
                    exact HST.out (fun i => i ≤ w.heap.size) w'' (fun i h => by omega) ((h1.mono fun i h => by omega).trans hm fun i h => .inl (by have := hS i h; omega))
                have HYES := Lib.hid hyes
                have k1 : (w7.alloc (.cells #[.int .i64 g1, .int .i64 g2, .int .i64 g3, .int .i64 g4, .slice VA vn vc] 34)).cell? ⟨w7.heap.size, 1, none⟩ = some (.int .i64 g2) := HB8.out.cell 1
                have k2 : (w7.alloc (.cells #[.int .i64 g1, .int .i64 g2, .int .i64 g3, .int .i64 g4, .slice VA vn vc] 34)).cell? ⟨w7.heap.size, 2, none⟩ = some (.int .i64 g3) := HB8.out.cell 2
                have k3 : (w7.alloc (.cells #[.int .i64 g1, .int .i64 g2, .int .i64 g3, .int .i64 g4, .slice VA vn vc] 34)).cell? ⟨w7.heap.size, 3, none⟩ = some (.int .i64 g4) := HB8.out.cell 3
                have k4 : (w7.alloc (.cells #[.int .i64 g1, .int .i64 g2, .int .i64 g3, .int .i64 g4, .slice VA vn vc] 34)).cell? ⟨w7.heap.size, 4, none⟩ = some (.slice VA vn vc) := HB8.out.cell 4
                have d1 : decide (g1 = (m : Int)) = true := decide_eq_true hgm
                have d2 : (g1 == (m : Int)) = true := by simpa using hgm
                clear hgm
                clear hm7 hxv hvn hst hgen hok hfq hl hyes hdv
                obtain HZ := Lib.hid (HALL.out (w7.alloc (.cells #[.int .i64 g1, .int .i64 g2, .int .i64 g3, .int .i64 g4, .slice VA vn vc] 34)) HM8.out)
                have y00 : (w7.alloc (.cells #[.int .i64 g1, .int .i64 g2, .int .i64 g3, .int .i64 g4, .slice VA vn vc] 34)).cell? ⟨w.heap.size, 0, none⟩ = some (.int .i64 0) := HZ.out.cell 0
                have f0 := HZ.out.frozen 0
                have y01 : (w7.alloc (.cells #[.int .i64 g1, .int .i64 g2, .int .i64 g3, .int .i64 g4, .slice VA vn vc] 34)).cell? ⟨w.heap.size, 1, none⟩ = some (.int .i64 0) := HZ.out.cell 1
                have f1 := HZ.out.frozen 1
                have y02 : (w7.alloc (.cells #[.int .i64 g1, .int .i64 g2, .int .i64 g3, .int .i64 g4, .slice VA vn vc] 34)).cell? ⟨w.heap.size, 2, none⟩ = some (.int .i64 0) := HZ.out.cell 2
                have f2 := HZ.out.frozen 2
                have y03 : (w7.alloc (.cells #[.int .i64 g1, .int .i64 g2, .int .i64 g3, .int .i64 g4, .slice VA vn vc] 34)).cell? ⟨w.heap.size, 3, none⟩ = some (.int .i64 0) := HZ.out.cell 3
                have f3 := HZ.out.frozen 3
                have y04 : (w7.alloc (.cells #[.int .i64 g1, .int .i64 g2, .int .i64 g3, .int .i64 g4, .slice VA vn vc] 34)).cell? ⟨w.heap.size, 4, none⟩ = some (.slice none 0 0) := HZ.out.cell 4
                have f4 := HZ.out.frozen 4
                go_wp2_with fail
                refine bodyPost_ret (results_rowtmp rfl _ _ w.heap.size 34 _ _ rfl (HZ.out.five _ _ _ _ _) Tryz.underlying34 rfl (by kernel_rfl) (.int .i64 0) rfl) rfl ?_
                exact HYES.out _ ((((((((Mod.refl (fun i => i = w.heap.size) w7).alloc _).set1 0 _).set1 1 _).set1 2 _).set1 3 _).set1 4 _)) (set5 (HM0.out.trans0 HM8.out) _ _ _ _ _)
              · have HNO2 := Lib.hid (HNO.out (by
                  rw [HL2.out, hfq]
                  simp only
                  rw [hdv]
                  simp only
                  rw [if_neg (by rw [hgen]; exact hgm)]))
                have d1 : decide (g1 = (m : Int)) = false := decide_eq_false hgm
                have d2 : (g1 == (m : Int)) = false := by simpa using hgm
                clear hm7 hxv hvn hst hgen hok hfq hdv
                obtain HZ := Lib.hid (HALL.out (w7.alloc (.cells #[.int .i64 g1, .int .i64 g2, .int .i64 g3, .int .i64 g4, .slice VA vn vc] 34)) HM8.out)
                have y00 : (w7.alloc (.cells #[.int .i64 g1, .int .i64 g2, .int .i64 g3, .int .i64 g4, .slice VA vn vc] 34)).cell? ⟨w.heap.size, 0, none⟩ = some (.int .i64 0) := HZ.out.cell 0
                have f0 := HZ.out.frozen 0
                have y01 : (w7.alloc (.cells #[.int .i64 g1, .int .i64 g2, .int .i64 g3, .int .i64 g4, .slice VA vn vc] 34)).cell? ⟨w.heap.size, 1, none⟩ = some (.int .i64 0) := HZ.out.cell 1
                have f1 := HZ.out.frozen 1
                have y02 : (w7.alloc (.cells #[.int .i64 g1, .int .i64 g2, .int .i64 g3, .int .i64 g4, .slice VA vn vc] 34)).cell? ⟨w.heap.size, 2, none⟩ = some (.int .i64 0) := HZ.out.cell 2
                have f2 := HZ.out.frozen 2
                have y03 : (w7.alloc (.cells #[.int .i64 g1, .int .i64 g2, .int .i64 g3, .int .i64 g4, .slice VA vn vc] 34)).cell? ⟨w.heap.size, 3, none⟩ = some (.int .i64 0) := HZ.out.cell 3
                have f3 := HZ.out.frozen 3
                have y04 : (w7.alloc (.cells #[.int .i64 g1, .int .i64 g2, .int .i64 g3, .int .i64 g4, .slice VA vn vc] 34)).cell? ⟨w.heap.size, 4, none⟩ = some (.slice none 0 0) := HZ.out.cell 4
                have f4 := HZ.out.frozen 4
                go_wp2_with fail
                refine bodyPost_ret (results_rowtmp rfl _ _ w.heap.size 34 _ _ rfl (HZ.out.five _ _ _ _ _) Tryz.underlying34 rfl (by kernel_rfl) (.int .i64 2) rfl) rfl ?_
                exact HNO2.out _ (set5 (HM0.out.trans0 HM8.out) _ _ _ _ _)

end Go.Proofs.YtdpjnpjmokncdaaGreatDoor

/- sawyerref11: framed, Load. -/
namespace Go.Proofs.YtdpjnpjmokncdaaGreatDoor
open Go.RowKit

def oneF (l : List UInt8) : Option (List UInt8) := match takeFrame l 1073741824 with
  | some (b, []) => some b
  | _ => none
theorem framedP_one (D : Dk) (nm : ByteArray) : framedP D nm = if named nm = true then (match findF D.files nm with | none => none | some f => oneF f.bytes) else none := rfl
/-- what the reference's framed answers. -/
def FqPost (l : List UInt8) (w : World) (e : Ending) (w' : World) : Prop :=
  ∃ A n c b x, e = .returned (.tuple #[.slice A n c, .bool b]) ∧ Mod Non w w' ∧ Rd w' A n (by8 x) ∧ n ≤ c ∧ c ≤ 9223372036854775807 ∧ n ≤ 140737488351232 ∧ FrB (oneF l) b x

set_option maxRecDepth 100000 in
set_option maxHeartbeats 1000000 in
theorem framedR_any (A : Option Addr) (n c : Nat) (l : List UInt8) (w : World) (h : Rd w A n (by8 l)) (hnc : n ≤ c) (hn : n ≤ 140737488351232) (hcm : c ≤ 9223372036854775807) :
    Calls Tryz.prog 106 #[.slice A n c] w (FqPost l w) := by
  have hll : l.length = n := by simpa using h.1
  have ht := takeFrameR_any A n c l 1073741824 w h hnc (by omega) hcm
  unfold TfqPost at ht
  cases htf : takeFrame l 1073741824 with
  | none =>
    rw [htf] at ht
    have ho : oneF l = none := by unfold oneF; rw [htf]
    have HT := Lib.hid ht
    have HO := Lib.hid ho
    clear ht htf ho h
    go_enter Tryz.func106, Tryz.ntmps106
    go_wp2_with fail
    refine HT.out.mono ?_
    rintro e w2 ⟨rfl, hm2⟩
    have HM2 := Lib.hid (Mod.of_below (S := Non) hm2)
    clear hm2
    go_wp2_with fail
    go_ret2
    exact ⟨none, 0, 0, false, [], rfl, HM2.out, Rd.nil _ _, by omega, by omega, by omega, by rw [HO.out]; exact (rfl : false = false)⟩
  | some p =>
    obtain ⟨body, rest⟩ := p
    rw [htf] at ht
    simp only at ht
    have hbl := (takeFrame_lt htf).2
    obtain ⟨r, hrl⟩ : ∃ r, rest.length = r := ⟨_, rfl⟩
    obtain ⟨bn, hbn⟩ : ∃ bn, body.length = bn := ⟨_, rfl⟩
    obtain ⟨bq, hbq⟩ : ∃ bq : Bool, decide (r = 0) = bq := ⟨_, rfl⟩
    have hfr2 : FrB (oneF l) bq body := by
      unfold oneF
      rw [htf]
      unfold FrB
      cases rest with
      | nil => simp only [List.length_nil] at hrl; subst hrl; simp at hbq; simp [hbq]
      | cons a t => simp only [List.length_cons] at hrl; subst hrl; simp at hbq; simp [hbq]
    have hbn2 : bn ≤ 140737488351232 := by omega
    rw [hrl, hbn] at ht
    have HT := Lib.hid ht
    have HFR := Lib.hid hfr2
    clear ht htf hfr2 h hrl hbn hbl
    cases bq with
    | true =>
      have hr0 : r = 0 := of_decide_eq_true hbq
      subst hr0
      clear hbq
      go_enter Tryz.func106, Tryz.ntmps106
      go_wp2_with fail
      refine HT.out.mono ?_
      rintro e w2 ⟨A2, c2, B2, d2, rfl, hr2, _, hc21, hc22, _, _, _, _, hm2⟩
      have HM2 := Lib.hid (Mod.of_below (S := Non) hm2)
      have HR2 := Lib.hid hr2
      clear hm2 hr2
      go_wp2_with fail
      go_ret2
      exact ⟨A2, bn, c2, true, body, rfl, HM2.out, HR2.out, hc21, hc22, hbn2, HFR.out⟩
    | false =>
      have hr0 : ¬ r = 0 := of_decide_eq_false hbq
      have hr1 : ((r : Int) == 0) = false := by simp; omega
      have hr2 : decide ((r : Int) = 0) = false := decide_eq_false (by omega)
      clear hbq
      go_enter Tryz.func106, Tryz.ntmps106
      go_wp2_with fail
      refine HT.out.mono ?_
      rintro e w2 ⟨A2, c2, B2, d2, rfl, hr2, _, hc21, hc22, _, _, _, _, hm2⟩
      have HM2 := Lib.hid (Mod.of_below (S := Non) hm2)
      have HR2 := Lib.hid hr2
      clear hm2 hr2
      go_wp2_with fail
      go_ret2
      exact ⟨A2, bn, c2, false, body, rfl, HM2.out, HR2.out, hc21, hc22, hbn2, HFR.out⟩

set_option maxRecDepth 100000 in
set_option maxHeartbeats 8000000 in
theorem loadQ_any (E : Nat → Prop) (r : Nat) (D : Dk) (w : World) (h : RkIs w E r D) (ok : DkOk D) :
    Calls Tryz.prog 67 #[.pointer (some ⟨r, 0, none⟩)] w (LoPost D w) := by
  obtain ⟨W0, hW0⟩ : ∃ W0, (w.alloc (.cells #[.int .i64 0, .int .i64 0, .int .i64 0, .int .i64 0, .slice none 0 0] 30)).alloc (.cells #[.int .i64 0, .int .i64 0, .int .i64 0, .int .i64 0, .slice none 0 0] 30) = W0 := ⟨_, rfl⟩
  have hm0 : Mod Non w W0 := by rw [← hW0]; exact ((Mod.refl Non w).alloc _).alloc _
  have hz0 : Blk W0 w.heap.size 30 #[.int .i64 0, .int .i64 0, .int .i64 0, .int .i64 0, .slice none 0 0] := by rw [← hW0]; exact (Blk.new _ _ _).alloc _
  have hz1 : Blk W0 (w.heap.size + 1) 30 #[.int .i64 0, .int .i64 0, .int .i64 0, .int .i64 0, .slice none 0 0] := by
    rw [← hW0]
    have := Blk.new (w.alloc (.cells #[.int .i64 0, .int .i64 0, .int .i64 0, .int .i64 0, .slice none 0 0] 30)) 30 #[.int .i64 0, .int .i64 0, .int .i64 0, .int .i64 0, .slice none 0 0]
    rwa [World.size_alloc] at this
  have HZ0 := Lib.hid hz0
  have HZ1 := Lib.hid hz1
  have HM0 := Lib.hid hm0
  have HO := Lib.hid ok
  have hrd : ∀ nm W, nm.size ≤ 1000 → Mod Non w W → Calls Tryz.prog 105 #[.pointer (some ⟨r, 0, none⟩), .string nm] W (RdPost D nm W) := fun nm W hs hW => readR_any nm E r D W (h.mod0 hW) ok (by omega)
  have HRD := Lib.hid hrd
  have hno : loadV D = none → ∀ w', Mod Non w w' → LoPost D w (.returned (.tuple #[.agg #[.int .i64 0, .int .i64 0, .int .i64 0, .int .i64 0, .slice none 0 0], .int .i64 2])) w' := fun hh w' hw => by
    unfold LoPost
    rw [hh]
    exact ⟨rfl, hw⟩
  have HNO := Lib.hid hno
  have HW0 := Lib.hid hW0
  clear h ok hm0 hz0 hz1 hno hrd hW0
  cases hf : findF D.files curN with
  | none =>
    have hl : loadV D = some zeroV := by unfold loadV; rw [hf]
    have hyes : ∀ w', Mod Non w w' → LoPost D w (.returned (.tuple #[.agg #[.int .i64 0, .int .i64 0, .int .i64 0, .int .i64 0, .slice none 0 0], .int .i64 0])) w' := fun w' hw => by
      unfold LoPost
      rw [hl]
      exact ⟨⟨0, 0, 0, 0, none, 0, []⟩, rfl, rfl, zeroVw _, fun _ w'' _ _ => zeroVw w'', hw⟩
    have HYES := Lib.hid hyes
    have hc : ∀ W, Mod Non w W → Calls Tryz.prog 105 #[.pointer (some ⟨r, 0, none⟩), .string ⟨#[99, 117, 114]⟩] W fun e w' => e = .returned (.tuple #[.slice none 0 0, .int .i64 3]) ∧ Mod Non W w' := fun W hW =>
      (HRD.out curN W (by decide) hW).mono fun e w' hp => by unfold RdPost at hp; rw [if_pos curN_named, hf] at hp; exact hp
    have HC := Lib.hid hc
    clear hl hyes hc hf
    go_enter Tryz.func67, Tryz.ntmps67
    go_wp2_with fail
    rw [HW0.out]
    refine (HC.out W0 HM0.out).mono ?_
    rintro e w1 ⟨rfl, hm1⟩
    have HM1 := Lib.hid hm1
    clear hm1
    have HZ := Lib.hid (HZ0.out.mod HM1.out fun h => h)
    have hn0 := HZ1.out.mod HM1.out fun h => h
    have y00 : w1.cell? ⟨w.heap.size, 0, none⟩ = some (.int .i64 0) := HZ.out.cell 0
    have f0 := HZ.out.frozen 0
    have y10 : w1.cell? ⟨w.heap.size + 1, 0, none⟩ = some (.int .i64 0) := hn0.cell 0
    have y01 : w1.cell? ⟨w.heap.size, 1, none⟩ = some (.int .i64 0) := HZ.out.cell 1
    have f1 := HZ.out.frozen 1
    have y11 : w1.cell? ⟨w.heap.size + 1, 1, none⟩ = some (.int .i64 0) := hn0.cell 1
    have y02 : w1.cell? ⟨w.heap.size, 2, none⟩ = some (.int .i64 0) := HZ.out.cell 2
    have f2 := HZ.out.frozen 2
    have y12 : w1.cell? ⟨w.heap.size + 1, 2, none⟩ = some (.int .i64 0) := hn0.cell 2
    have y03 : w1.cell? ⟨w.heap.size, 3, none⟩ = some (.int .i64 0) := HZ.out.cell 3
    have f3 := HZ.out.frozen 3
    have y13 : w1.cell? ⟨w.heap.size + 1, 3, none⟩ = some (.int .i64 0) := hn0.cell 3
    have y04 : w1.cell? ⟨w.heap.size, 4, none⟩ = some (.slice none 0 0) := HZ.out.cell 4
    have f4 := HZ.out.frozen 4
    have y14 : w1.cell? ⟨w.heap.size + 1, 4, none⟩ = some (.slice none 0 0) := hn0.cell 4
    clear hn0
    go_wp2_with fail
    refine bodyPost_ret (results_rowtmp rfl _ _ w.heap.size 30 _ _ rfl (HZ.out.five _ _ _ _ _) Tryz.underlying30 rfl (by kernel_rfl) (.int .i64 0) rfl) rfl ?_
    exact HYES.out _ (set5 (HM0.out.trans0 HM1.out) _ _ _ _ _)
  | some f0 =>
    have hl : loadV D = (match oneF f0.bytes with
      | none => none
      | some b => match takeNum b with
        | some (g, []) => match framedP D (foldN manP (g : Int)) with
          | none => none
          | some mb => match decV mb with
            | none => none
            | some v => if v.gen = (g : Int) then some v else none
        | _ => none) := by unfold loadV; rw [hf, framedP_one, if_pos curN_named, hf]; try rfl
    have hfl : f0.bytes.length ≤ 140737488351232 := by have := (find_len HO.out hf).1; omega
    have hc : ∀ W, Mod Non w W → Calls Tryz.prog 105 #[.pointer (some ⟨r, 0, none⟩), .string ⟨#[99, 117, 114]⟩] W fun e w' => ∃ A c n, n = f0.bytes.length ∧ e = .returned (.tuple #[.slice A n c, .int .i64 0]) ∧ Rd w' A n (by8 f0.bytes) ∧ n ≤ c ∧ c ≤ 9223372036854775807 ∧ Mod Non W w' := fun W hW =>
      (HRD.out curN W (by decide) hW).mono fun e w' hp => by
        unfold RdPost at hp
        rw [if_pos curN_named, hf] at hp
        obtain ⟨A, c, h1, h3, h2⟩ := hp
        obtain ⟨A', c', he, h4, h5⟩ := own_slice h3
        cases he
        exact ⟨A, c, _, rfl, h1, Rd.of_own h3, h4, h5, h2⟩
    have HC := Lib.hid hc
    have HL2 := Lib.hid hl
    have HFL := Lib.hid hfl
    clear hl hc hf hfl
    go_enter Tryz.func67, Tryz.ntmps67
    go_wp2_with fail
    rw [HW0.out]
    refine (HC.out W0 HM0.out).mono ?_
    rintro e w1 ⟨A1, c1, n1, hn1, rfl, hr1, hc1, hc2, hm1⟩
    have HM1 := Lib.hid hm1
    have hle : n1 ≤ 140737488351232 := by rw [hn1]; exact HFL.out
    have HFR := Lib.hid (framedR_any A1 n1 c1 f0.bytes w1 hr1 hc1 hle hc2)
    clear hm1 hr1 hn1
    go_wp2_with fail
    refine HFR.out.mono ?_
    rintro e w3 ⟨A3, n3, c3, b3, l3, rfl, hm3, hr3, hc31, hc32, hn3, hb3⟩
    have HM3 := Lib.hid (HM1.out.trans0 hm3)
    have HTN := Lib.hid (takeNumR_any A3 n3 c3 l3 w3 hr3 hc31 (by omega) hc32)
    clear hm3 hr3
    go_wp2_with fail
    refine HTN.out.mono ?_
    unfold TnqPost
    cases htk : takeNum l3 with
    | none =>
      rintro e w4 ⟨rfl, hb4⟩
      have HM4 := Lib.hid (HM3.out.trans0 (Mod.of_below hb4))
      have hbad : loadV D = none := by
        rw [HL2.out]
        cases ho : oneF f0.bytes with
        | none => rfl
        | some x =>
          rw [ho] at hb3
          obtain ⟨rfl, _⟩ := hb3
          simp only
          rw [htk]
      have HNO2 := Lib.hid (HNO.out hbad)
      clear hb4 htk hb3 hbad
      cases b3 with
      | true =>
        have HZ := Lib.hid (HZ0.out.mod HM4.out fun h => h)
        have hn0 := HZ1.out.mod HM4.out fun h => h
        have y00 : w4.cell? ⟨w.heap.size, 0, none⟩ = some (.int .i64 0) := HZ.out.cell 0
        have f0 := HZ.out.frozen 0
        have y10 : w4.cell? ⟨w.heap.size + 1, 0, none⟩ = some (.int .i64 0) := hn0.cell 0
        have y01 : w4.cell? ⟨w.heap.size, 1, none⟩ = some (.int .i64 0) := HZ.out.cell 1
        have f1 := HZ.out.frozen 1
        have y11 : w4.cell? ⟨w.heap.size + 1, 1, none⟩ = some (.int .i64 0) := hn0.cell 1
        have y02 : w4.cell? ⟨w.heap.size, 2, none⟩ = some (.int .i64 0) := HZ.out.cell 2
        have f2 := HZ.out.frozen 2
        have y12 : w4.cell? ⟨w.heap.size + 1, 2, none⟩ = some (.int .i64 0) := hn0.cell 2
        have y03 : w4.cell? ⟨w.heap.size, 3, none⟩ = some (.int .i64 0) := HZ.out.cell 3
        have f3 := HZ.out.frozen 3
        have y13 : w4.cell? ⟨w.heap.size + 1, 3, none⟩ = some (.int .i64 0) := hn0.cell 3
        have y04 : w4.cell? ⟨w.heap.size, 4, none⟩ = some (.slice none 0 0) := HZ.out.cell 4
        have f4 := HZ.out.frozen 4
        have y14 : w4.cell? ⟨w.heap.size + 1, 4, none⟩ = some (.slice none 0 0) := hn0.cell 4
        clear hn0
        go_wp2_with fail
        refine bodyPost_ret (results_rowtmp rfl _ _ w.heap.size 30 _ _ rfl (HZ.out.five _ _ _ _ _) Tryz.underlying30 rfl (by kernel_rfl) (.int .i64 2) rfl) rfl ?_
        exact HNO2.out _ (set5 (HM0.out.trans0 HM4.out) _ _ _ _ _)
      | false =>
        have HZ := Lib.hid (HZ0.out.mod HM4.out fun h => h)
        have hn0 := HZ1.out.mod HM4.out fun h => h
        have y00 : w4.cell? ⟨w.heap.size, 0, none⟩ = some (.int .i64 0) := HZ.out.cell 0
        have f0 := HZ.out.frozen 0
        have y10 : w4.cell? ⟨w.heap.size + 1, 0, none⟩ = some (.int .i64 0) := hn0.cell 0
        have y01 : w4.cell? ⟨w.heap.size, 1, none⟩ = some (.int .i64 0) := HZ.out.cell 1
        have f1 := HZ.out.frozen 1
        have y11 : w4.cell? ⟨w.heap.size + 1, 1, none⟩ = some (.int .i64 0) := hn0.cell 1
        have y02 : w4.cell? ⟨w.heap.size, 2, none⟩ = some (.int .i64 0) := HZ.out.cell 2
        have f2 := HZ.out.frozen 2
        have y12 : w4.cell? ⟨w.heap.size + 1, 2, none⟩ = some (.int .i64 0) := hn0.cell 2
        have y03 : w4.cell? ⟨w.heap.size, 3, none⟩ = some (.int .i64 0) := HZ.out.cell 3
        have f3 := HZ.out.frozen 3
        have y13 : w4.cell? ⟨w.heap.size + 1, 3, none⟩ = some (.int .i64 0) := hn0.cell 3
        have y04 : w4.cell? ⟨w.heap.size, 4, none⟩ = some (.slice none 0 0) := HZ.out.cell 4
        have f4 := HZ.out.frozen 4
        have y14 : w4.cell? ⟨w.heap.size + 1, 4, none⟩ = some (.slice none 0 0) := hn0.cell 4
        clear hn0
        go_wp2_with fail
        refine bodyPost_ret (results_rowtmp rfl _ _ w.heap.size 30 _ _ rfl (HZ.out.five _ _ _ _ _) Tryz.underlying30 rfl (by kernel_rfl) (.int .i64 2) rfl) rfl ?_
        exact HNO2.out _ (set5 (HM0.out.trans0 HM4.out) _ _ _ _ _)
    | some p =>
      obtain ⟨m, rest⟩ := p
      have hm62 := (takeNum_spec htk).2
      obtain ⟨q, hq⟩ : ∃ q, rest.length = q := ⟨_, rfl⟩
      simp only
      rw [hq]
      rintro e w4 ⟨A4, c4, rfl, ho4, hb4⟩
      have HM4 := Lib.hid (HM3.out.trans0 (Mod.of_below hb4))
      clear ho4 hb4
      cases b3 with
      | false =>
        have hbad : loadV D = none := by
          rw [HL2.out]
          cases ho : oneF f0.bytes with
          | none => rfl
          | some x =>
            rw [ho] at hb3
            cases hb3.2
        have HNO2 := Lib.hid (HNO.out hbad)
        clear hb3 hbad htk hq
        have HZ := Lib.hid (HZ0.out.mod HM4.out fun h => h)
        have hn0 := HZ1.out.mod HM4.out fun h => h
        have y00 : w4.cell? ⟨w.heap.size, 0, none⟩ = some (.int .i64 0) := HZ.out.cell 0
        have f0 := HZ.out.frozen 0
        have y10 : w4.cell? ⟨w.heap.size + 1, 0, none⟩ = some (.int .i64 0) := hn0.cell 0
        have y01 : w4.cell? ⟨w.heap.size, 1, none⟩ = some (.int .i64 0) := HZ.out.cell 1
        have f1 := HZ.out.frozen 1
        have y11 : w4.cell? ⟨w.heap.size + 1, 1, none⟩ = some (.int .i64 0) := hn0.cell 1
        have y02 : w4.cell? ⟨w.heap.size, 2, none⟩ = some (.int .i64 0) := HZ.out.cell 2
        have f2 := HZ.out.frozen 2
        have y12 : w4.cell? ⟨w.heap.size + 1, 2, none⟩ = some (.int .i64 0) := hn0.cell 2
        have y03 : w4.cell? ⟨w.heap.size, 3, none⟩ = some (.int .i64 0) := HZ.out.cell 3
        have f3 := HZ.out.frozen 3
        have y13 : w4.cell? ⟨w.heap.size + 1, 3, none⟩ = some (.int .i64 0) := hn0.cell 3
        have y04 : w4.cell? ⟨w.heap.size, 4, none⟩ = some (.slice none 0 0) := HZ.out.cell 4
        have f4 := HZ.out.frozen 4
        have y14 : w4.cell? ⟨w.heap.size + 1, 4, none⟩ = some (.slice none 0 0) := hn0.cell 4
        clear hn0
        go_wp2_with fail
        refine bodyPost_ret (results_rowtmp rfl _ _ w.heap.size 30 _ _ rfl (HZ.out.five _ _ _ _ _) Tryz.underlying30 rfl (by kernel_rfl) (.int .i64 2) rfl) rfl ?_
        exact HNO2.out _ (set5 (HM0.out.trans0 HM4.out) _ _ _ _ _)
      | true =>
        have hone : oneF f0.bytes = some l3 := by
          cases ho : oneF f0.bytes with
          | none =>
            rw [ho] at hb3
            cases hb3
          | some x =>
            rw [ho] at hb3
            rw [hb3.1]
        rw [hone] at HL2
        simp only at HL2
        clear hb3 hone
        cases rest with
        | cons a tl =>
          have HNO2 := Lib.hid (HNO.out (by rw [HL2.out, htk]))
          have hqp : 0 < q := by rw [← hq, List.length_cons]; omega
          have hq0 : decide ((0 : Int) < (q : Int)) = true := decide_eq_true (by omega)
          have hq1 : decide (0 < q) = true := decide_eq_true hqp
          clear htk hq
          have HZ := Lib.hid (HZ0.out.mod HM4.out fun h => h)
          have hn0 := HZ1.out.mod HM4.out fun h => h
          have y00 : w4.cell? ⟨w.heap.size, 0, none⟩ = some (.int .i64 0) := HZ.out.cell 0
          have f0 := HZ.out.frozen 0
          have y10 : w4.cell? ⟨w.heap.size + 1, 0, none⟩ = some (.int .i64 0) := hn0.cell 0
          have y01 : w4.cell? ⟨w.heap.size, 1, none⟩ = some (.int .i64 0) := HZ.out.cell 1
          have f1 := HZ.out.frozen 1
          have y11 : w4.cell? ⟨w.heap.size + 1, 1, none⟩ = some (.int .i64 0) := hn0.cell 1
          have y02 : w4.cell? ⟨w.heap.size, 2, none⟩ = some (.int .i64 0) := HZ.out.cell 2
          have f2 := HZ.out.frozen 2
          have y12 : w4.cell? ⟨w.heap.size + 1, 2, none⟩ = some (.int .i64 0) := hn0.cell 2
          have y03 : w4.cell? ⟨w.heap.size, 3, none⟩ = some (.int .i64 0) := HZ.out.cell 3
          have f3 := HZ.out.frozen 3
          have y13 : w4.cell? ⟨w.heap.size + 1, 3, none⟩ = some (.int .i64 0) := hn0.cell 3
          have y04 : w4.cell? ⟨w.heap.size, 4, none⟩ = some (.slice none 0 0) := HZ.out.cell 4
          have f4 := HZ.out.frozen 4
          have y14 : w4.cell? ⟨w.heap.size + 1, 4, none⟩ = some (.slice none 0 0) := hn0.cell 4
          clear hn0
          go_wp2_with fail
          refine bodyPost_ret (results_rowtmp rfl _ _ w.heap.size 30 _ _ rfl (HZ.out.five _ _ _ _ _) Tryz.underlying30 rfl (by kernel_rfl) (.int .i64 2) rfl) rfl ?_
          exact HNO2.out _ (set5 (HM0.out.trans0 HM4.out) _ _ _ _ _)
        | nil =>
          rw [htk] at HL2
          simp only at HL2
          simp only [List.length_nil] at hq
          subst hq
          clear htk
          obtain ⟨nm, hnm⟩ : ∃ nm, foldN manP (m : Int) = nm := ⟨_, rfl⟩
          rw [hnm] at HL2
          have hns : nm.size ≤ 1000 := by
            rw [← hnm]
            by_cases hr : 0 ≤ (m : Int) ∧ (m : Int) ≤ 1099511627776
            · rw [foldN_size hr]; decide
            · rw [foldN_0 hr]; omega
          have hnd : ∀ W, Calls Tryz.prog 73 #[.string ⟨#[109, 97, 110, 47]⟩, .int .i64 (m : Int)] W fun e w' => e = .returned (.string nm) ∧ Mod Non W w' := fun W => by
            have := foldR_any manP (m : Int) W (by decide)
            rw [hnm] at this
            exact this
          have HND := Lib.hid hnd
          by_cases hem : nm = ⟨#[]⟩
          · have HNO2 := Lib.hid (HNO.out (by rw [HL2.out, framedP_one, hem, if_neg (by decide +kernel)]))
            have he1 : (nm.toList == ([] : List UInt8)) = true := by rw [hem, ByteArray.toList_eq]; rfl
            clear hnd hnm hem
            go_wp2_with fail
            refine (HND.out w4).mono ?_
            rintro e w5 ⟨rfl, hm5⟩
            have HM5 := Lib.hid (HM4.out.trans0 hm5)
            clear hm5
            have HZ := Lib.hid (HZ0.out.mod HM5.out fun h => h)
            have hn0 := HZ1.out.mod HM5.out fun h => h
            have y00 : w5.cell? ⟨w.heap.size, 0, none⟩ = some (.int .i64 0) := HZ.out.cell 0
            have f0 := HZ.out.frozen 0
            have y10 : w5.cell? ⟨w.heap.size + 1, 0, none⟩ = some (.int .i64 0) := hn0.cell 0
            have y01 : w5.cell? ⟨w.heap.size, 1, none⟩ = some (.int .i64 0) := HZ.out.cell 1
            have f1 := HZ.out.frozen 1
            have y11 : w5.cell? ⟨w.heap.size + 1, 1, none⟩ = some (.int .i64 0) := hn0.cell 1
            have y02 : w5.cell? ⟨w.heap.size, 2, none⟩ = some (.int .i64 0) := HZ.out.cell 2
            have f2 := HZ.out.frozen 2
            have y12 : w5.cell? ⟨w.heap.size + 1, 2, none⟩ = some (.int .i64 0) := hn0.cell 2
            have y03 : w5.cell? ⟨w.heap.size, 3, none⟩ = some (.int .i64 0) := HZ.out.cell 3
            have f3 := HZ.out.frozen 3
            have y13 : w5.cell? ⟨w.heap.size + 1, 3, none⟩ = some (.int .i64 0) := hn0.cell 3
            have y04 : w5.cell? ⟨w.heap.size, 4, none⟩ = some (.slice none 0 0) := HZ.out.cell 4
            have f4 := HZ.out.frozen 4
            have y14 : w5.cell? ⟨w.heap.size + 1, 4, none⟩ = some (.slice none 0 0) := hn0.cell 4
            clear hn0
            go_wp2_with fail
            refine bodyPost_ret (results_rowtmp rfl _ _ w.heap.size 30 _ _ rfl (HZ.out.five _ _ _ _ _) Tryz.underlying30 rfl (by kernel_rfl) (.int .i64 2) rfl) rfl ?_
            exact HNO2.out _ (set5 (HM0.out.trans0 HM5.out) _ _ _ _ _)
          · have he1 : (nm.toList == ([] : List UInt8)) = false := by
              rw [beq_eq_false_iff_ne, ByteArray.toList_eq]
              intro h
              exact hem (ByteArray.ext (Array.ext' h))
            clear hnd hnm hem
            have hrn := HRD.out nm
            cases hnb : named nm with
            | false =>
              have hcn : ∀ W, Mod Non w W → Calls Tryz.prog 105 #[.pointer (some ⟨r, 0, none⟩), .string nm] W fun e w' => e = .returned (.tuple #[.slice none 0 0, .int .i64 1]) ∧ Mod Non W w' := fun W hW =>
                (hrn W hns hW).mono fun e w' hp => by unfold RdPost at hp; rw [if_neg (by rw [hnb]; simp)] at hp; exact hp
              have HCN := Lib.hid hcn
              have HNO2 := Lib.hid (HNO.out (by rw [HL2.out, framedP_one, if_neg (by rw [hnb]; simp)]))
              clear hcn hrn hnb
              go_wp2_with fail
              refine (HND.out w4).mono ?_
              rintro e w5 ⟨rfl, hm5⟩
              have HM5 := Lib.hid (HM4.out.trans0 hm5)
              clear hm5
              go_wp2_with fail
              refine (HND.out w5).mono ?_
              rintro e w6 ⟨rfl, hm6⟩
              have HM6 := Lib.hid (HM5.out.trans0 hm6)
              clear hm6
              go_wp2_with fail
              refine (HCN.out w6 (HM0.out.trans0 HM6.out)).mono ?_
              rintro e w7 ⟨rfl, hm7⟩
              have HM7 := Lib.hid (HM6.out.trans0 hm7)
              clear hm7
              have HZ := Lib.hid (HZ0.out.mod HM7.out fun h => h)
              have hn0 := HZ1.out.mod HM7.out fun h => h
              have y00 : w7.cell? ⟨w.heap.size, 0, none⟩ = some (.int .i64 0) := HZ.out.cell 0
              have f0 := HZ.out.frozen 0
              have y10 : w7.cell? ⟨w.heap.size + 1, 0, none⟩ = some (.int .i64 0) := hn0.cell 0
              have y01 : w7.cell? ⟨w.heap.size, 1, none⟩ = some (.int .i64 0) := HZ.out.cell 1
              have f1 := HZ.out.frozen 1
              have y11 : w7.cell? ⟨w.heap.size + 1, 1, none⟩ = some (.int .i64 0) := hn0.cell 1
              have y02 : w7.cell? ⟨w.heap.size, 2, none⟩ = some (.int .i64 0) := HZ.out.cell 2
              have f2 := HZ.out.frozen 2
              have y12 : w7.cell? ⟨w.heap.size + 1, 2, none⟩ = some (.int .i64 0) := hn0.cell 2
              have y03 : w7.cell? ⟨w.heap.size, 3, none⟩ = some (.int .i64 0) := HZ.out.cell 3
              have f3 := HZ.out.frozen 3
              have y13 : w7.cell? ⟨w.heap.size + 1, 3, none⟩ = some (.int .i64 0) := hn0.cell 3
              have y04 : w7.cell? ⟨w.heap.size, 4, none⟩ = some (.slice none 0 0) := HZ.out.cell 4
              have f4 := HZ.out.frozen 4
              have y14 : w7.cell? ⟨w.heap.size + 1, 4, none⟩ = some (.slice none 0 0) := hn0.cell 4
              clear hn0
              go_wp2_with fail
              refine bodyPost_ret (results_rowtmp rfl _ _ w.heap.size 30 _ _ rfl (HZ.out.five _ _ _ _ _) Tryz.underlying30 rfl (by kernel_rfl) (.int .i64 2) rfl) rfl ?_
              exact HNO2.out _ (set5 (HM0.out.trans0 HM7.out) _ _ _ _ _)
            | true =>
              cases hf2 : findF D.files nm with
              | none =>
                have hcn : ∀ W, Mod Non w W → Calls Tryz.prog 105 #[.pointer (some ⟨r, 0, none⟩), .string nm] W fun e w' => e = .returned (.tuple #[.slice none 0 0, .int .i64 3]) ∧ Mod Non W w' := fun W hW =>
                  (hrn W hns hW).mono fun e w' hp => by unfold RdPost at hp; rw [if_pos hnb, hf2] at hp; exact hp
                have HCN := Lib.hid hcn
                have HNO2 := Lib.hid (HNO.out (by rw [HL2.out, framedP_one, if_pos hnb, hf2]))
                clear hcn hrn hnb hf2
                go_wp2_with fail
                refine (HND.out w4).mono ?_
                rintro e w5 ⟨rfl, hm5⟩
                have HM5 := Lib.hid (HM4.out.trans0 hm5)
                clear hm5
                go_wp2_with fail
                refine (HND.out w5).mono ?_
                rintro e w6 ⟨rfl, hm6⟩
                have HM6 := Lib.hid (HM5.out.trans0 hm6)
                clear hm6
                go_wp2_with fail
                refine (HCN.out w6 (HM0.out.trans0 HM6.out)).mono ?_
                rintro e w7 ⟨rfl, hm7⟩
                have HM7 := Lib.hid (HM6.out.trans0 hm7)
                clear hm7
                have HZ := Lib.hid (HZ0.out.mod HM7.out fun h => h)
                have hn0 := HZ1.out.mod HM7.out fun h => h
                have y00 : w7.cell? ⟨w.heap.size, 0, none⟩ = some (.int .i64 0) := HZ.out.cell 0
                have f0 := HZ.out.frozen 0
                have y10 : w7.cell? ⟨w.heap.size + 1, 0, none⟩ = some (.int .i64 0) := hn0.cell 0
                have y01 : w7.cell? ⟨w.heap.size, 1, none⟩ = some (.int .i64 0) := HZ.out.cell 1
                have f1 := HZ.out.frozen 1
                have y11 : w7.cell? ⟨w.heap.size + 1, 1, none⟩ = some (.int .i64 0) := hn0.cell 1
                have y02 : w7.cell? ⟨w.heap.size, 2, none⟩ = some (.int .i64 0) := HZ.out.cell 2
                have f2 := HZ.out.frozen 2
                have y12 : w7.cell? ⟨w.heap.size + 1, 2, none⟩ = some (.int .i64 0) := hn0.cell 2
                have y03 : w7.cell? ⟨w.heap.size, 3, none⟩ = some (.int .i64 0) := HZ.out.cell 3
                have f3 := HZ.out.frozen 3
                have y13 : w7.cell? ⟨w.heap.size + 1, 3, none⟩ = some (.int .i64 0) := hn0.cell 3
                have y04 : w7.cell? ⟨w.heap.size, 4, none⟩ = some (.slice none 0 0) := HZ.out.cell 4
                have f4 := HZ.out.frozen 4
                have y14 : w7.cell? ⟨w.heap.size + 1, 4, none⟩ = some (.slice none 0 0) := hn0.cell 4
                clear hn0
                go_wp2_with fail
                refine bodyPost_ret (results_rowtmp rfl _ _ w.heap.size 30 _ _ rfl (HZ.out.five _ _ _ _ _) Tryz.underlying30 rfl (by kernel_rfl) (.int .i64 2) rfl) rfl ?_
                exact HNO2.out _ (set5 (HM0.out.trans0 HM7.out) _ _ _ _ _)
              | some f2 =>
                have hfl2 : f2.bytes.length ≤ 140737488351232 := by have := (find_len HO.out hf2).1; omega
                have hcn : ∀ W, Mod Non w W → Calls Tryz.prog 105 #[.pointer (some ⟨r, 0, none⟩), .string nm] W fun e w' => ∃ A c n, n = f2.bytes.length ∧ e = .returned (.tuple #[.slice A n c, .int .i64 0]) ∧ Rd w' A n (by8 f2.bytes) ∧ n ≤ c ∧ c ≤ 9223372036854775807 ∧ Mod Non W w' := fun W hW =>
                  (hrn W hns hW).mono fun e w' hp => by
                    unfold RdPost at hp
                    rw [if_pos hnb, hf2] at hp
                    obtain ⟨A, c, h1, h3, h2⟩ := hp
                    obtain ⟨A', c', he, h4, h5⟩ := own_slice h3
                    cases he
                    exact ⟨A, c, _, rfl, h1, Rd.of_own h3, h4, h5, h2⟩
                have HCN := Lib.hid hcn
                have HFL2 := Lib.hid hfl2
                have hl3 : framedP D nm = oneF f2.bytes := by rw [framedP_one, if_pos hnb, hf2]
                rw [hl3] at HL2
                clear hcn hrn hnb hf2 hfl2 hl3
                go_wp2_with fail
                refine (HND.out w4).mono ?_
                rintro e w5 ⟨rfl, hm5⟩
                have HM5 := Lib.hid (HM4.out.trans0 hm5)
                clear hm5
                go_wp2_with fail
                refine (HND.out w5).mono ?_
                rintro e w6 ⟨rfl, hm6⟩
                have HM6 := Lib.hid (HM5.out.trans0 hm6)
                clear hm6
                go_wp2_with fail
                refine (HCN.out w6 (HM0.out.trans0 HM6.out)).mono ?_
                rintro e w7 ⟨A7, c7, n7, hn7, rfl, hr7, hc71, hc72, hm7⟩
                have HM7 := Lib.hid (HM6.out.trans0 hm7)
                have hle7 : n7 ≤ 140737488351232 := by rw [hn7]; exact HFL2.out
                have HFR7 := Lib.hid (framedR_any A7 n7 c7 f2.bytes w7 hr7 hc71 hle7 hc72)
                clear hm7 hr7 hn7
                go_wp2_with fail
                refine HFR7.out.mono ?_
                rintro e w8 ⟨A8, n8, c8, b8', l8, rfl, hm8, hr8, hc81, hc82, hn8, hb8⟩
                have HM8 := Lib.hid (HM7.out.trans0 hm8)
                have HDE := Lib.hid (decodeR_any A8 n8 c8 l8 w8 hr8 hc81 hc82 hn8)
                clear hm8 hr8
                go_wp2_with fail
                refine HDE.out.mono ?_
                unfold DePost
                cases hdv : decV l8 with
                | none =>
                  rintro e w9 ⟨rfl, hm9⟩
                  have HM9 := Lib.hid (HM8.out.trans0 hm9)
                  have hbad : loadV D = none := by
                    rw [HL2.out]
                    cases ho : oneF f2.bytes with
                    | none => rfl
                    | some x =>
                      rw [ho] at hb8
                      obtain ⟨rfl, _⟩ := hb8
                      simp only
                      rw [hdv]
                  have HNO2 := Lib.hid (HNO.out hbad)
                  clear hm9 hdv hb8 hbad
                  cases b8' with
                  | true =>
                    have hva : Mod Non w9 (w9.alloc (.cells #[.int .i64 0, .int .i64 0, .int .i64 0, .int .i64 0, .slice none 0 0] 30)) := (Mod.refl Non w9).alloc _
                    have HVA := Lib.hid (HM9.out.trans0 hva)
                    clear hva
                    have HZ := Lib.hid (HZ0.out.mod HVA.out fun h => h)
                    have hn0 := HZ1.out.mod HVA.out fun h => h
                    have y00 : (w9.alloc (.cells #[.int .i64 0, .int .i64 0, .int .i64 0, .int .i64 0, .slice none 0 0] 30)).cell? ⟨w.heap.size, 0, none⟩ = some (.int .i64 0) := HZ.out.cell 0
                    have f0 := HZ.out.frozen 0
                    have y10 : (w9.alloc (.cells #[.int .i64 0, .int .i64 0, .int .i64 0, .int .i64 0, .slice none 0 0] 30)).cell? ⟨w.heap.size + 1, 0, none⟩ = some (.int .i64 0) := hn0.cell 0
                    have y01 : (w9.alloc (.cells #[.int .i64 0, .int .i64 0, .int .i64 0, .int .i64 0, .slice none 0 0] 30)).cell? ⟨w.heap.size, 1, none⟩ = some (.int .i64 0) := HZ.out.cell 1
                    have f1 := HZ.out.frozen 1
                    have y11 : (w9.alloc (.cells #[.int .i64 0, .int .i64 0, .int .i64 0, .int .i64 0, .slice none 0 0] 30)).cell? ⟨w.heap.size + 1, 1, none⟩ = some (.int .i64 0) := hn0.cell 1
                    have y02 : (w9.alloc (.cells #[.int .i64 0, .int .i64 0, .int .i64 0, .int .i64 0, .slice none 0 0] 30)).cell? ⟨w.heap.size, 2, none⟩ = some (.int .i64 0) := HZ.out.cell 2
                    have f2 := HZ.out.frozen 2
                    have y12 : (w9.alloc (.cells #[.int .i64 0, .int .i64 0, .int .i64 0, .int .i64 0, .slice none 0 0] 30)).cell? ⟨w.heap.size + 1, 2, none⟩ = some (.int .i64 0) := hn0.cell 2
                    have y03 : (w9.alloc (.cells #[.int .i64 0, .int .i64 0, .int .i64 0, .int .i64 0, .slice none 0 0] 30)).cell? ⟨w.heap.size, 3, none⟩ = some (.int .i64 0) := HZ.out.cell 3
                    have f3 := HZ.out.frozen 3
                    have y13 : (w9.alloc (.cells #[.int .i64 0, .int .i64 0, .int .i64 0, .int .i64 0, .slice none 0 0] 30)).cell? ⟨w.heap.size + 1, 3, none⟩ = some (.int .i64 0) := hn0.cell 3
                    have y04 : (w9.alloc (.cells #[.int .i64 0, .int .i64 0, .int .i64 0, .int .i64 0, .slice none 0 0] 30)).cell? ⟨w.heap.size, 4, none⟩ = some (.slice none 0 0) := HZ.out.cell 4
                    have f4 := HZ.out.frozen 4
                    have y14 : (w9.alloc (.cells #[.int .i64 0, .int .i64 0, .int .i64 0, .int .i64 0, .slice none 0 0] 30)).cell? ⟨w.heap.size + 1, 4, none⟩ = some (.slice none 0 0) := hn0.cell 4
                    clear hn0
                    go_wp2_with fail
                    refine bodyPost_ret (results_rowtmp rfl _ _ w.heap.size 30 _ _ rfl (HZ.out.five _ _ _ _ _) Tryz.underlying30 rfl (by kernel_rfl) (.int .i64 2) rfl) rfl ?_
                    exact HNO2.out _ (set5 (HM0.out.trans0 HVA.out) _ _ _ _ _)
                  | false =>
                    have hva : Mod Non w9 (w9.alloc (.cells #[.int .i64 0, .int .i64 0, .int .i64 0, .int .i64 0, .slice none 0 0] 30)) := (Mod.refl Non w9).alloc _
                    have HVA := Lib.hid (HM9.out.trans0 hva)
                    clear hva
                    have HZ := Lib.hid (HZ0.out.mod HVA.out fun h => h)
                    have hn0 := HZ1.out.mod HVA.out fun h => h
                    have y00 : (w9.alloc (.cells #[.int .i64 0, .int .i64 0, .int .i64 0, .int .i64 0, .slice none 0 0] 30)).cell? ⟨w.heap.size, 0, none⟩ = some (.int .i64 0) := HZ.out.cell 0
                    have f0 := HZ.out.frozen 0
                    have y10 : (w9.alloc (.cells #[.int .i64 0, .int .i64 0, .int .i64 0, .int .i64 0, .slice none 0 0] 30)).cell? ⟨w.heap.size + 1, 0, none⟩ = some (.int .i64 0) := hn0.cell 0
                    have y01 : (w9.alloc (.cells #[.int .i64 0, .int .i64 0, .int .i64 0, .int .i64 0, .slice none 0 0] 30)).cell? ⟨w.heap.size, 1, none⟩ = some (.int .i64 0) := HZ.out.cell 1
                    have f1 := HZ.out.frozen 1
                    have y11 : (w9.alloc (.cells #[.int .i64 0, .int .i64 0, .int .i64 0, .int .i64 0, .slice none 0 0] 30)).cell? ⟨w.heap.size + 1, 1, none⟩ = some (.int .i64 0) := hn0.cell 1
                    have y02 : (w9.alloc (.cells #[.int .i64 0, .int .i64 0, .int .i64 0, .int .i64 0, .slice none 0 0] 30)).cell? ⟨w.heap.size, 2, none⟩ = some (.int .i64 0) := HZ.out.cell 2
                    have f2 := HZ.out.frozen 2
                    have y12 : (w9.alloc (.cells #[.int .i64 0, .int .i64 0, .int .i64 0, .int .i64 0, .slice none 0 0] 30)).cell? ⟨w.heap.size + 1, 2, none⟩ = some (.int .i64 0) := hn0.cell 2
                    have y03 : (w9.alloc (.cells #[.int .i64 0, .int .i64 0, .int .i64 0, .int .i64 0, .slice none 0 0] 30)).cell? ⟨w.heap.size, 3, none⟩ = some (.int .i64 0) := HZ.out.cell 3
                    have f3 := HZ.out.frozen 3
                    have y13 : (w9.alloc (.cells #[.int .i64 0, .int .i64 0, .int .i64 0, .int .i64 0, .slice none 0 0] 30)).cell? ⟨w.heap.size + 1, 3, none⟩ = some (.int .i64 0) := hn0.cell 3
                    have y04 : (w9.alloc (.cells #[.int .i64 0, .int .i64 0, .int .i64 0, .int .i64 0, .slice none 0 0] 30)).cell? ⟨w.heap.size, 4, none⟩ = some (.slice none 0 0) := HZ.out.cell 4
                    have f4 := HZ.out.frozen 4
                    have y14 : (w9.alloc (.cells #[.int .i64 0, .int .i64 0, .int .i64 0, .int .i64 0, .slice none 0 0] 30)).cell? ⟨w.heap.size + 1, 4, none⟩ = some (.slice none 0 0) := hn0.cell 4
                    clear hn0
                    go_wp2_with fail
                    refine bodyPost_ret (results_rowtmp rfl _ _ w.heap.size 30 _ _ rfl (HZ.out.five _ _ _ _ _) Tryz.underlying30 rfl (by kernel_rfl) (.int .i64 2) rfl) rfl ?_
                    exact HNO2.out _ (set5 (HM0.out.trans0 HVA.out) _ _ _ _ _)
                | some v =>
                  simp only
                  rintro e w9 ⟨⟨xg, xn, xl, xs, xA, xc, xms⟩, hxv, rfl, hxo, hxk, hm9⟩
                  unfold Vw.val
                  simp only
                  obtain ⟨xm, hxm⟩ : ∃ xm, xms.length = xm := ⟨_, rfl⟩
                  rw [hxm]
                  have HM9 := Lib.hid (HM8.out.trans0 hm9)
                  have hvg : v.gen = xg := by rw [← hxv]; rfl
                  have HXM := Lib.hid hxm
                  have HXV := Lib.hid hxv
                  have HXK := Lib.hid hxk
                  have HSW := Lib.hid (HM0.out.trans0 HM8.out).size
                  clear hm9 hxo hxk hxm hxv
                  cases b8' with
                  | false =>
                    have hbad : loadV D = none := by
                      rw [HL2.out]
                      cases ho : oneF f2.bytes with
                      | none => rfl
                      | some x =>
                        rw [ho] at hb8
                        cases hb8.2
                    have HNO2 := Lib.hid (HNO.out hbad)
                    clear hb8 hbad hdv hvg
                    have hva : Mod Non w9 (w9.alloc (.cells #[.int .i64 xg, .int .i64 xn, .int .i64 xl, .int .i64 xs, .slice xA xm xc] 30)) := (Mod.refl Non w9).alloc _
                    have HVA := Lib.hid (HM9.out.trans0 hva)
                    clear hva
                    have HZ := Lib.hid (HZ0.out.mod HVA.out fun h => h)
                    have hn0 := HZ1.out.mod HVA.out fun h => h
                    have y00 : (w9.alloc (.cells #[.int .i64 xg, .int .i64 xn, .int .i64 xl, .int .i64 xs, .slice xA xm xc] 30)).cell? ⟨w.heap.size, 0, none⟩ = some (.int .i64 0) := HZ.out.cell 0
                    have f0 := HZ.out.frozen 0
                    have y10 : (w9.alloc (.cells #[.int .i64 xg, .int .i64 xn, .int .i64 xl, .int .i64 xs, .slice xA xm xc] 30)).cell? ⟨w.heap.size + 1, 0, none⟩ = some (.int .i64 0) := hn0.cell 0
                    have y01 : (w9.alloc (.cells #[.int .i64 xg, .int .i64 xn, .int .i64 xl, .int .i64 xs, .slice xA xm xc] 30)).cell? ⟨w.heap.size, 1, none⟩ = some (.int .i64 0) := HZ.out.cell 1
                    have f1 := HZ.out.frozen 1
                    have y11 : (w9.alloc (.cells #[.int .i64 xg, .int .i64 xn, .int .i64 xl, .int .i64 xs, .slice xA xm xc] 30)).cell? ⟨w.heap.size + 1, 1, none⟩ = some (.int .i64 0) := hn0.cell 1
                    have y02 : (w9.alloc (.cells #[.int .i64 xg, .int .i64 xn, .int .i64 xl, .int .i64 xs, .slice xA xm xc] 30)).cell? ⟨w.heap.size, 2, none⟩ = some (.int .i64 0) := HZ.out.cell 2
                    have f2 := HZ.out.frozen 2
                    have y12 : (w9.alloc (.cells #[.int .i64 xg, .int .i64 xn, .int .i64 xl, .int .i64 xs, .slice xA xm xc] 30)).cell? ⟨w.heap.size + 1, 2, none⟩ = some (.int .i64 0) := hn0.cell 2
                    have y03 : (w9.alloc (.cells #[.int .i64 xg, .int .i64 xn, .int .i64 xl, .int .i64 xs, .slice xA xm xc] 30)).cell? ⟨w.heap.size, 3, none⟩ = some (.int .i64 0) := HZ.out.cell 3
                    have f3 := HZ.out.frozen 3
                    have y13 : (w9.alloc (.cells #[.int .i64 xg, .int .i64 xn, .int .i64 xl, .int .i64 xs, .slice xA xm xc] 30)).cell? ⟨w.heap.size + 1, 3, none⟩ = some (.int .i64 0) := hn0.cell 3
                    have y04 : (w9.alloc (.cells #[.int .i64 xg, .int .i64 xn, .int .i64 xl, .int .i64 xs, .slice xA xm xc] 30)).cell? ⟨w.heap.size, 4, none⟩ = some (.slice none 0 0) := HZ.out.cell 4
                    have f4 := HZ.out.frozen 4
                    have y14 : (w9.alloc (.cells #[.int .i64 xg, .int .i64 xn, .int .i64 xl, .int .i64 xs, .slice xA xm xc] 30)).cell? ⟨w.heap.size + 1, 4, none⟩ = some (.slice none 0 0) := hn0.cell 4
                    clear hn0
                    go_wp2_with fail
                    refine bodyPost_ret (results_rowtmp rfl _ _ w.heap.size 30 _ _ rfl (HZ.out.five _ _ _ _ _) Tryz.underlying30 rfl (by kernel_rfl) (.int .i64 2) rfl) rfl ?_
                    exact HNO2.out _ (set5 (HM0.out.trans0 HVA.out) _ _ _ _ _)
                  | true =>
                    have hone : oneF f2.bytes = some l8 := by
                      cases ho : oneF f2.bytes with
                      | none =>
                        rw [ho] at hb8
                        cases hb8
                      | some x =>
                        rw [ho] at hb8
                        rw [hb8.1]
                    rw [hone] at HL2
                    simp only at HL2
                    rw [hdv] at HL2
                    simp only at HL2
                    rw [hvg] at HL2
                    clear hb8 hone hdv hvg
                    by_cases hxg : xg = (m : Int)
                    · rw [if_pos hxg] at HL2
                      have hyes : ∀ w', Mod (fun i => i = w.heap.size) w9 w' → Mod Non w w' → LoPost D w (.returned (.tuple #[.agg #[.int .i64 xg, .int .i64 xn, .int .i64 xl, .int .i64 xs, .slice xA xm xc], .int .i64 0])) w' := fun w' hw hw2 => by
                        unfold LoPost
                        rw [HL2.out]
                        have h8 : w.heap.size < w8.heap.size := by have := HSW.out; have := HZ0.out.lt; have := HM8.out.size; omega
                        refine ⟨⟨xg, xn, xl, xs, xA, xc, xms⟩, HXV.out, ?_, HXK.out _ w' (fun i h => by rw [h]; exact h8) hw, fun S w'' hS hm => HXK.out (fun i => i = w.heap.size ∨ S i) w'' (fun i h => ?_) ((hw.mono fun i h => .inl h).trans hm fun i h => .inl (.inr h)), hw2⟩
                        · unfold Vw.val
                          simp only
                          rw [HXM.out]
                        · have := HSW.out
                          rcases h with h | h
                          · omega
                          · have := hS i h
                            omega
                      have HYES := Lib.hid hyes
                      clear hyes
                      subst hxg
                      have hva : Mod Non w9 (w9.alloc (.cells #[.int .i64 (m : Int), .int .i64 xn, .int .i64 xl, .int .i64 xs, .slice xA xm xc] 30)) := (Mod.refl Non w9).alloc _
                      have HVA := Lib.hid (HM9.out.trans0 hva)
                      have HV9 := Lib.hid hva
                      clear hva
                      have HZ := Lib.hid (HZ0.out.mod HVA.out fun h => h)
                      have hn0 := HZ1.out.mod HVA.out fun h => h
                      have y00 : (w9.alloc (.cells #[.int .i64 (m : Int), .int .i64 xn, .int .i64 xl, .int .i64 xs, .slice xA xm xc] 30)).cell? ⟨w.heap.size, 0, none⟩ = some (.int .i64 0) := HZ.out.cell 0
                      have f0 := HZ.out.frozen 0
                      have y10 : (w9.alloc (.cells #[.int .i64 (m : Int), .int .i64 xn, .int .i64 xl, .int .i64 xs, .slice xA xm xc] 30)).cell? ⟨w.heap.size + 1, 0, none⟩ = some (.int .i64 0) := hn0.cell 0
                      have y01 : (w9.alloc (.cells #[.int .i64 (m : Int), .int .i64 xn, .int .i64 xl, .int .i64 xs, .slice xA xm xc] 30)).cell? ⟨w.heap.size, 1, none⟩ = some (.int .i64 0) := HZ.out.cell 1
                      have f1 := HZ.out.frozen 1
                      have y11 : (w9.alloc (.cells #[.int .i64 (m : Int), .int .i64 xn, .int .i64 xl, .int .i64 xs, .slice xA xm xc] 30)).cell? ⟨w.heap.size + 1, 1, none⟩ = some (.int .i64 0) := hn0.cell 1
                      have y02 : (w9.alloc (.cells #[.int .i64 (m : Int), .int .i64 xn, .int .i64 xl, .int .i64 xs, .slice xA xm xc] 30)).cell? ⟨w.heap.size, 2, none⟩ = some (.int .i64 0) := HZ.out.cell 2
                      have f2 := HZ.out.frozen 2
                      have y12 : (w9.alloc (.cells #[.int .i64 (m : Int), .int .i64 xn, .int .i64 xl, .int .i64 xs, .slice xA xm xc] 30)).cell? ⟨w.heap.size + 1, 2, none⟩ = some (.int .i64 0) := hn0.cell 2
                      have y03 : (w9.alloc (.cells #[.int .i64 (m : Int), .int .i64 xn, .int .i64 xl, .int .i64 xs, .slice xA xm xc] 30)).cell? ⟨w.heap.size, 3, none⟩ = some (.int .i64 0) := HZ.out.cell 3
                      have f3 := HZ.out.frozen 3
                      have y13 : (w9.alloc (.cells #[.int .i64 (m : Int), .int .i64 xn, .int .i64 xl, .int .i64 xs, .slice xA xm xc] 30)).cell? ⟨w.heap.size + 1, 3, none⟩ = some (.int .i64 0) := hn0.cell 3
                      have y04 : (w9.alloc (.cells #[.int .i64 (m : Int), .int .i64 xn, .int .i64 xl, .int .i64 xs, .slice xA xm xc] 30)).cell? ⟨w.heap.size, 4, none⟩ = some (.slice none 0 0) := HZ.out.cell 4
                      have f4 := HZ.out.frozen 4
                      have y14 : (w9.alloc (.cells #[.int .i64 (m : Int), .int .i64 xn, .int .i64 xl, .int .i64 xs, .slice xA xm xc] 30)).cell? ⟨w.heap.size + 1, 4, none⟩ = some (.slice none 0 0) := hn0.cell 4
                      clear hn0
                      go_wp2_with fail
                      refine bodyPost_ret (results_rowtmp rfl _ _ w.heap.size 30 _ _ rfl (HZ.out.five _ _ _ _ _) Tryz.underlying30 rfl (by kernel_rfl) (.int .i64 0) rfl) rfl ?_
                      exact HYES.out _ ((((((HV9.out.non.set1 0 _).set1 1 _).set1 2 _).set1 3 _).set1 4 _)) (set5 (HM0.out.trans0 HVA.out) _ _ _ _ _)
                    · rw [if_neg hxg] at HL2
                      have HNO2 := Lib.hid (HNO.out HL2.out)
                      have hxb : (xg == (m : Int)) = false := beq_eq_false_iff_ne.2 hxg
                      have hxb2 : (xg != (m : Int)) = true := by rw [bne, hxb]; rfl
                      clear hxg
                      have hva : Mod Non w9 (w9.alloc (.cells #[.int .i64 xg, .int .i64 xn, .int .i64 xl, .int .i64 xs, .slice xA xm xc] 30)) := (Mod.refl Non w9).alloc _
                      have HVA := Lib.hid (HM9.out.trans0 hva)
                      clear hva
                      have HZ := Lib.hid (HZ0.out.mod HVA.out fun h => h)
                      have hn0 := HZ1.out.mod HVA.out fun h => h
                      have y00 : (w9.alloc (.cells #[.int .i64 xg, .int .i64 xn, .int .i64 xl, .int .i64 xs, .slice xA xm xc] 30)).cell? ⟨w.heap.size, 0, none⟩ = some (.int .i64 0) := HZ.out.cell 0
                      have f0 := HZ.out.frozen 0
                      have y10 : (w9.alloc (.cells #[.int .i64 xg, .int .i64 xn, .int .i64 xl, .int .i64 xs, .slice xA xm xc] 30)).cell? ⟨w.heap.size + 1, 0, none⟩ = some (.int .i64 0) := hn0.cell 0
                      have y01 : (w9.alloc (.cells #[.int .i64 xg, .int .i64 xn, .int .i64 xl, .int .i64 xs, .slice xA xm xc] 30)).cell? ⟨w.heap.size, 1, none⟩ = some (.int .i64 0) := HZ.out.cell 1
                      have f1 := HZ.out.frozen 1
                      have y11 : (w9.alloc (.cells #[.int .i64 xg, .int .i64 xn, .int .i64 xl, .int .i64 xs, .slice xA xm xc] 30)).cell? ⟨w.heap.size + 1, 1, none⟩ = some (.int .i64 0) := hn0.cell 1
                      have y02 : (w9.alloc (.cells #[.int .i64 xg, .int .i64 xn, .int .i64 xl, .int .i64 xs, .slice xA xm xc] 30)).cell? ⟨w.heap.size, 2, none⟩ = some (.int .i64 0) := HZ.out.cell 2
                      have f2 := HZ.out.frozen 2
                      have y12 : (w9.alloc (.cells #[.int .i64 xg, .int .i64 xn, .int .i64 xl, .int .i64 xs, .slice xA xm xc] 30)).cell? ⟨w.heap.size + 1, 2, none⟩ = some (.int .i64 0) := hn0.cell 2
                      have y03 : (w9.alloc (.cells #[.int .i64 xg, .int .i64 xn, .int .i64 xl, .int .i64 xs, .slice xA xm xc] 30)).cell? ⟨w.heap.size, 3, none⟩ = some (.int .i64 0) := HZ.out.cell 3
                      have f3 := HZ.out.frozen 3
                      have y13 : (w9.alloc (.cells #[.int .i64 xg, .int .i64 xn, .int .i64 xl, .int .i64 xs, .slice xA xm xc] 30)).cell? ⟨w.heap.size + 1, 3, none⟩ = some (.int .i64 0) := hn0.cell 3
                      have y04 : (w9.alloc (.cells #[.int .i64 xg, .int .i64 xn, .int .i64 xl, .int .i64 xs, .slice xA xm xc] 30)).cell? ⟨w.heap.size, 4, none⟩ = some (.slice none 0 0) := HZ.out.cell 4
                      have f4 := HZ.out.frozen 4
                      have y14 : (w9.alloc (.cells #[.int .i64 xg, .int .i64 xn, .int .i64 xl, .int .i64 xs, .slice xA xm xc] 30)).cell? ⟨w.heap.size + 1, 4, none⟩ = some (.slice none 0 0) := hn0.cell 4
                      clear hn0
                      go_wp2_with fail
                      refine bodyPost_ret (results_rowtmp rfl _ _ w.heap.size 30 _ _ rfl (HZ.out.five _ _ _ _ _) Tryz.underlying30 rfl (by kernel_rfl) (.int .i64 2) rfl) rfl ?_
                      exact HNO2.out _ (set5 (HM0.out.trans0 HVA.out) _ _ _ _ _)

end Go.Proofs.YtdpjnpjmokncdaaGreatDoor
