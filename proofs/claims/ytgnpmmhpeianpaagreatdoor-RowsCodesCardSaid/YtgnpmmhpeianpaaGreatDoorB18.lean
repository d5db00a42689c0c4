/- code.TakeFrame. -/
import Derived.Test.YtgnpmmhpeianpaaGreatDoorB09
import Derived.Deep.QuietTactic
import Derived.BigQuiet
import Derived.Deep.RegionWith
import Derived.Deep.RegionHeld3
namespace Go.Proofs.YtgnpmmhpeianpaaGreatDoor
open Go.RowKit

def takeFrame (l : List UInt8) (most : Int) : Option (List UInt8 × List UInt8) :=
  match takeNum l with
  | none => none
  | some (m, rest) =>
    if most < (m : Int) ∨ (rest.length : Int) - 4 < (m : Int) then none
    else if numFold (rest.take 4) = crcOf (l.take (l.length - rest.length) ++ (rest.drop 4).take m) then some ((rest.drop 4).take m, rest.drop (4 + m)) else none

theorem takeNum_spec {l rest : List UInt8} {m : Nat} (h : takeNum l = some (m, rest)) : rest.length ≤ l.length ∧ m ≤ 4611686018427387903 := by
  unfold takeNum at h
  split at h
  · cases h
  · rename_i hn
    simp only [Option.some.injEq, Prod.mk.injEq] at h
    obtain ⟨rfl, rfl⟩ := h
    exact ⟨by rw [List.length_drop]; omega, by omega⟩

/-- what TakeFrame answers. -/
def TfPost (l : List UInt8) (most : Int) (w : World) (e : Ending) (w' : World) : Prop :=
  match takeFrame l most with
  | none => e = .returned (.tuple #[.slice none 0 0, .slice none 0 0, .int .i64 2]) ∧ Below w.heap.size w w'
  | some (body, rest) => ∃ A' c' B' d', e = .returned (.tuple #[.slice A' body.length c', .slice B' rest.length d', .int .i64 0]) ∧ w'.ownsRow w.heap.size 5 1 (.slice A' body.length c') body.length (by8 body) ∧
      Rd w' B' rest.length (by8 rest) ∧ (∀ b, blkOf B' = some b → w.heap.size ≤ b) ∧ rest.length ≤ d' ∧ d' ≤ 9223372036854775807 ∧ Below w.heap.size w w'
theorem tfPost_none {l : List UInt8} {most : Int} {w w' : World} (h : takeFrame l most = none) (hb : Below w.heap.size w w') : TfPost l most w (.returned (.tuple #[.slice none 0 0, .slice none 0 0, .int .i64 2])) w' := by
  unfold TfPost; rw [h]; exact ⟨rfl, hb⟩

theorem tfPost_some {l body rest : List UInt8} {most : Int} {w w' : World} {A' B' : Option Addr} {n c' r d' : Nat} (h : takeFrame l most = some (body, rest)) (hn : body.length = n) (hr : rest.length = r)
    (ho : w'.ownsRow w.heap.size 5 1 (.slice A' n c') n (by8 body)) (hB : Rd w' B' r (by8 rest)) (hbb : ∀ b, blkOf B' = some b → w.heap.size ≤ b) (hd : r ≤ d') (hd2 : d' ≤ 9223372036854775807) (hb : Below w.heap.size w w') :
    TfPost l most w (.returned (.tuple #[.slice A' n c', .slice B' r d', .int .i64 0])) w' := by
  subst hn
  subst hr
  unfold TfPost; rw [h]; exact ⟨A', c', B', d', rfl, ho, hB, hbb, hd, hd2, hb⟩

set_option maxRecDepth 100000 in
set_option maxHeartbeats 1000000 in
theorem takeFrame_any (A : Option Addr) (n c : Nat) (l : List UInt8) (most : Int) (w : World) (h : Rd w A n (by8 l)) (hnc : n ≤ c) (hn : n ≤ 140737488351232) (hcm : c ≤ 9223372036854775807) :
    Calls Tryz.prog 126 #[.slice A n c, .int .i64 most] w (TfPost l most w) := by
  have hl : l.length = n := by simpa using h.1
  have HL := Lib.hid hl
  clear hl
  have hct := takeNum_any A n c l w h hnc (by omega) hcm
  rcases htn : takeNum l with _ | ⟨m, rest⟩
  · have HF : Hid (takeFrame l most = none) := by show takeFrame l most = none; unfold takeFrame; rw [htn]
    have hct' : Calls Tryz.prog 63 #[.slice A n c] w fun e w' => e = .returned (.tuple #[.int .i64 0, .slice none 0 0, .int .i64 2]) ∧ w = w' := hct.mono fun e w' hp => by unfold TnPost at hp; rw [htn] at hp; exact hp
    have HC := Lib.hid hct'
    clear hct hct' htn
    go_enter Tryz.func126, Tryz.ntmps126
    go_wp2_with (go_at_call 63; refine HC.out.mono ?_; rintro e w1 ⟨rfl, rfl⟩)
    go_ret3
    exact tfPost_none HF.out (Below.refl _ _)
  · have hct' : Calls Tryz.prog 63 #[.slice A n c] w fun e w' => ∃ A' c', e = .returned (.tuple #[.int .i64 (m : Nat), .slice A' rest.length c', .int .i64 0]) ∧ w'.ownsRow w.heap.size 5 1 (.slice A' rest.length c') rest.length (by8 rest) ∧ Below w.heap.size w w' := hct.mono fun e w' hp => by unfold TnPost at hp; rw [htn] at hp; exact hp
    have HC := Lib.hid hct'
    obtain ⟨hrl, hmm⟩ := takeNum_spec htn
    rw [HL.out] at hrl
    have htf : takeFrame l most = if most < (m : Int) ∨ (rest.length : Int) - 4 < (m : Int) then none
      else if numFold (rest.take 4) = crcOf (l.take (n - rest.length) ++ (rest.drop 4).take m) then some ((rest.drop 4).take m, rest.drop (4 + m)) else none := by
      unfold takeFrame; rw [htn, HL.out]
    have HTF := Lib.hid htf
    clear hct hct' htn htf
    by_cases hbig : most < (m : Int) ∨ (rest.length : Int) - 4 < (m : Int)
    · have HF : Hid (takeFrame l most = none) := by show takeFrame l most = none; rw [HTF.out, if_pos hbig]
      clear HTF
      rcases hbig with hbig | hbig
      all_goals
        go_enter Tryz.func126, Tryz.ntmps126
        go_wp2_with (go_at_call 63; refine HC.out.mono ?_; rintro e w1 ⟨A1, c1, rfl, ho1, hb1⟩)
        all_goals (go_ret3; exact tfPost_none HF.out hb1)
    · have hb1' : (m : Int) ≤ most := by omega
      have hb2' : (m : Int) + 4 ≤ (rest.length : Int) := by omega
      clear hbig
      obtain ⟨r, hr⟩ : ∃ r, rest.length = r := ⟨_, rfl⟩
      have HR := Lib.hid hr
      rw [hr] at hrl hb2' HC
      clear hr
      go_enter Tryz.func126, Tryz.ntmps126
      go_wp2_with (go_at_call 63; refine HC.out.mono ?_; rintro e w1 ⟨A1, c1, rfl, ho1, hb1⟩)
      have hcc := (own_slice ho1)
      have hc1 : r ≤ c1 ∧ c1 ≤ maxLen := by
        obtain ⟨A9, c9, e9, h1, h2⟩ := hcc
        injection e9 with _ _ e
        subst e
        exact ⟨h1, h2⟩
      clear hcc
      obtain ⟨hc1, hc2⟩ := hc1
      unfold maxLen at hc2
      have HB1 := Lib.hid hb1
      have hsz1 := hb1.size
      clear hb1
      have hr1 := Rd.of_own ho1
      have hA1 := (h.mod0 (Mod.of_below HB1.out)).take (k := n - r) (by omega)
      rw [← by8_take] at hA1
      obtain ⟨b1, o1, rfl, hcells⟩ := hr1.2 (by omega)
      have hbb : w.heap.size ≤ b1 := own_base ho1 b1 rfl
      clear hcells ho1
      have hr4 : Rd w1 (some ⟨b1, o1, none⟩) 4 (by8 (rest.take 4)) := by rw [by8_take]; exact hr1.take (by omega)
      have hc4 := (hr1.cut (k := 4) (cap := c1) (by omega) hc1).take (k := m) (by omega)
      have hc5 := hr1.cut (k := 4 + m) (cap := c1) (by omega) hc1
      rw [← by8_drop] at hc5
      rw [← by8_drop, ← by8_take] at hc4
      have hbl : (l.take (n - r)).length = n - r := by rw [List.length_take, HL.out]; omega
      have HBL := Lib.hid hbl
      clear hbl hr1
      have hcb := crcOf_bd (l.take (n - r) ++ (rest.drop 4).take m)
      obtain ⟨hcb1, hcb2⟩ := hcb
      have hnb := numFold_bd (rest.take 4)
      have q1 : IntKind.i64.wrap ((n : Int) - (r : Int)) = (n : Int) - (r : Int) := IntWalk.i64_in _ (by omega)
      have q2 : IntKind.i64.wrap (4 + (m : Int)) = 4 + (m : Int) := IntWalk.i64_in _ (by omega)
      have q3 : 0 ≤ (n : Int) - (r : Int) := by omega
      have q4 : ((n : Int) - (r : Int)).toNat = n - r := by omega
      have q5 : (4 + (m : Int)).toNat = 4 + m := by omega
      have q6 : (n : Int) - (r : Int) ≤ (c : Int) := by omega
      have q7 : 4 + (m : Int) ≤ (c1 : Int) := by omega
      have q8 : 4 + (m : Int) ≤ (r : Int) := by omega
      have q9 : 0 ≤ 4 + (m : Int) := by omega
      have hlen1 : ((rest.drop 4).take m).length = m := by rw [List.length_take, List.length_drop, HR.out]; omega
      have hlen2 : (rest.drop (4 + m)).length = r - (4 + m) := by rw [List.length_drop, HR.out]
      have HL1 := Lib.hid hlen1
      have HL2 := Lib.hid hlen2
      clear hlen1 hlen2
      have three : (c1 = 4 ∧ r ≤ 4 ∧ m = 0) ∨ (¬ c1 = 4 ∧ c1 = 4 + m ∧ r ≤ 4 + m) ∨ (¬ c1 = 4 ∧ ¬ c1 = 4 + m) := by omega
      rcases three with ⟨rfl, hr4', rfl⟩ | ⟨e1, rfl, hr4'⟩ | ⟨e1, e2⟩
      · have hc5' : Rd w1 (some ⟨b1, o1, none⟩) 0 (by8 (rest.drop 4)) := by
          have h0 : Rd w1 (some ⟨b1, o1, none⟩) (r - 4) (by8 (rest.drop 4)) := hc5
          rwa [show r - 4 = 0 from by omega] at h0
        have HTF0 : Hid (takeFrame l most = if numFold (rest.take 4) = crcOf (l.take (n - r)) then some ([], rest.drop 4) else none) := by
          show takeFrame l most = _
          rw [HTF.out, if_neg (by rw [HR.out]; omega), HR.out, List.take_zero, List.append_nil]
        have HL3 : Hid ((rest.drop 4).length = 0) := by
          have h0 : (rest.drop 4).length = r - 4 := HL2.out
          show (rest.drop 4).length = 0
          omega
        have hcb1 := (crcOf_bd (l.take (n - r))).1
        have hcb2 := (crcOf_bd (l.take (n - r))).2
        clear hc4 hc5 HTF HL1 HL2 q2 q5 q7 q8 q9
        by_cases hq : numFold (rest.take 4) = crcOf (l.take (n - r))
        · have hqb : (numFold (rest.take 4) != crcOf (l.take (n - r))) = false := by simp [hq]
          have HF : Hid (takeFrame l most = some ([], rest.drop 4)) := by
            show takeFrame l most = _
            rw [HTF0.out, if_pos hq]
          clear hq HTF0
          have hrr : (4 : Int) ≤ (r : Int) := by omega
          have hw4 : IntKind.i64.wrap 4 = 4 := by decide
          go_quiet (fail)
          clear q1 q3 q4 q6
          go_wp2_with (first
            | (go_at_call 190; refine (number_any _ 4 4 (rest.take 4) _ (hr4.drewN _) (by omega)).mono ?_; rintro e w' ⟨rfl, rfl⟩)
            | (go_at_call 94; refine (laid_any _ _ (n - r) c 0 _ (l.take (n - r)) [] _ (hA1.drewN _) (Rd.nil _ _) (by omega)).mono ?_; rintro e w2 ⟨A2, c2, rfl, ho2, hb2⟩; rw [Nat.add_zero, List.append_nil] at ho2)
            | (go_at_call 191; refine (crc_any _ _ c2 _ _ (Rd.of_own ho2) (by omega)).mono ?_; rintro e w' ⟨rfl, rfl⟩))
          go_region_held3 (fun _ => True) (exact trivial) ((go_at_call 93; refine (clone_any _ 0 _ [] _ (Rd.nil _ _) (by omega)).mono ?_; rintro e w3 ⟨A3, c3, rfl, ho3, hb3⟩))
          go_wp2
          go_ret3
          exact tfPost_some HF.out rfl HL3.out (own_mono ho3 (Nat.le_trans hsz1 hb2.size)) ((((hc5'.drewN _).mod0 (Mod.of_below hb2)).drewN 1).mod0 (Mod.of_below hb3)) (fun b hb => by cases hb; exact hbb) (by omega) (by omega) ((below_drewN HB1.out _).trans ((hb2.trans ((below_drewN (Below.refl _ w2) 1).trans (hb3.mono (Nat.le_refl _)) |>.mono hb2.size)).mono hsz1))
        · have hqb : (numFold (rest.take 4) != crcOf (l.take (n - r))) = true := by simp [hq]
          have HF : Hid (takeFrame l most = none) := by
            show takeFrame l most = _
            rw [HTF0.out, if_neg hq]
          clear hq HTF0
          go_quiet (fail)
          clear q1 q3 q4 q6
          go_wp2_with (first
            | (go_at_call 190; refine (number_any _ 4 4 (rest.take 4) _ (hr4.drewN _) (by omega)).mono ?_; rintro e w' ⟨rfl, rfl⟩)
            | (go_at_call 94; refine (laid_any _ _ (n - r) c 0 _ (l.take (n - r)) [] _ (hA1.drewN _) (Rd.nil _ _) (by omega)).mono ?_; rintro e w2 ⟨A2, c2, rfl, ho2, hb2⟩; rw [Nat.add_zero, List.append_nil] at ho2)
            | (go_at_call 191; refine (crc_any _ _ c2 _ _ (Rd.of_own ho2) (by omega)).mono ?_; rintro e w' ⟨rfl, rfl⟩))
          go_ret3
          exact tfPost_none HF.out ((below_drewN HB1.out _).trans (hb2.mono hsz1))
      · rw [if_neg e1] at hc4
        rw [if_pos rfl] at hc5
        have hc4' : Rd w1 (some ⟨b1, o1 + 4, none⟩) m (by8 ((rest.drop 4).take m)) := hc4
        have hc5' : Rd w1 (some ⟨b1, o1, none⟩) 0 (by8 (rest.drop (4 + m))) := by
          rwa [show r - (4 + m) = 0 from by omega] at hc5
        have HL2' : Hid ((rest.drop (4 + m)).length = 0) := by
          have h0 := HL2.out
          show (rest.drop (4 + m)).length = 0
          omega
        clear HL2
        have HL2 := HL2'
        clear HL2'
        clear hc4 hc5
        by_cases hq : numFold (rest.take 4) = crcOf (l.take (n - r) ++ (rest.drop 4).take m)
        · have hqb : (numFold (rest.take 4) != crcOf (l.take (n - r) ++ (rest.drop 4).take m)) = false := by simp [hq]
          have HF : Hid (takeFrame l most = some ((rest.drop 4).take m, rest.drop (4 + m))) := by
            show takeFrame l most = _
            rw [HTF.out, if_neg (by rw [HR.out]; omega), HR.out, if_pos hq]
          clear hq HTF
          go_quiet (fail)
          clear q1 q3 q4 q6
          go_wp2_with (first
            | (go_at_call 190; refine (number_any _ 4 _ (rest.take 4) _ (hr4.drewN _) (by omega)).mono ?_; rintro e w' ⟨rfl, rfl⟩)
            | (go_at_call 94; refine (laid_any _ _ (n - r) c m _ (l.take (n - r)) ((rest.drop 4).take m) _ (hA1.drewN _) (hc4'.drewN _) (by omega)).mono ?_; rintro e w2 ⟨A2, c2, rfl, ho2, hb2⟩)
            | (go_at_call 191; refine (crc_any _ _ c2 _ _ (Rd.of_own ho2) (by omega)).mono ?_; rintro e w' ⟨rfl, rfl⟩))
          have hc4'' := (hc4'.drewN _).mod0 (Mod.of_below hb2)
          go_region_held3 (fun _ => True) (exact trivial) ((go_at_call 93; refine (clone_any _ m _ ((rest.drop 4).take m) _ (hc4''.drewN 1) (by omega)).mono ?_; rintro e w3 ⟨A3, c3, rfl, ho3, hb3⟩))
          go_wp2
          go_ret3
          exact tfPost_some HF.out HL1.out HL2.out (own_mono ho3 (Nat.le_trans hsz1 hb2.size)) ((((hc5'.drewN _).mod0 (Mod.of_below hb2)).drewN 1).mod0 (Mod.of_below hb3)) (fun b hb => by cases hb; exact hbb) (by omega) (by omega) ((below_drewN HB1.out _).trans ((hb2.trans ((below_drewN (Below.refl _ w2) 1).trans (hb3.mono (Nat.le_refl _)) |>.mono hb2.size)).mono hsz1))
        · have hqb : (numFold (rest.take 4) != crcOf (l.take (n - r) ++ (rest.drop 4).take m)) = true := by simp [hq]
          have HF : Hid (takeFrame l most = none) := by
            show takeFrame l most = _
            rw [HTF.out, if_neg (by rw [HR.out]; omega), HR.out, if_neg hq]
          clear hq HTF
          go_quiet (fail)
          clear q1 q2 q3 q4 q5 q6 q7 q8 q9
          go_wp2_with (first
            | (go_at_call 190; refine (number_any _ 4 _ (rest.take 4) _ (hr4.drewN _) (by omega)).mono ?_; rintro e w' ⟨rfl, rfl⟩)
            | (go_at_call 94; refine (laid_any _ _ (n - r) c m _ (l.take (n - r)) ((rest.drop 4).take m) _ (hA1.drewN _) (hc4'.drewN _) (by omega)).mono ?_; rintro e w2 ⟨A2, c2, rfl, ho2, hb2⟩)
            | (go_at_call 191; refine (crc_any _ _ c2 _ _ (Rd.of_own ho2) (by omega)).mono ?_; rintro e w' ⟨rfl, rfl⟩))
          go_ret3
          exact tfPost_none HF.out ((below_drewN HB1.out _).trans (hb2.mono hsz1))
      · rw [if_neg e1] at hc4
        rw [if_neg e2] at hc5
        have hc4' : Rd w1 (some ⟨b1, o1 + 4, none⟩) m (by8 ((rest.drop 4).take m)) := hc4
        have hc5' : Rd w1 (some ⟨b1, o1 + (4 + m), none⟩) (r - (4 + m)) (by8 (rest.drop (4 + m))) := by
          have := hc5
          simp only [Option.map_some, Addr.add] at this
          rwa [if_neg (by omega)] at this
        clear hc4 hc5
        by_cases hq : numFold (rest.take 4) = crcOf (l.take (n - r) ++ (rest.drop 4).take m)
        · have hqb : (numFold (rest.take 4) != crcOf (l.take (n - r) ++ (rest.drop 4).take m)) = false := by simp [hq]
          have HF : Hid (takeFrame l most = some ((rest.drop 4).take m, rest.drop (4 + m))) := by
            show takeFrame l most = _
            rw [HTF.out, if_neg (by rw [HR.out]; omega), HR.out, if_pos hq]
          clear hq HTF
          go_quiet (fail)
          clear q1 q3 q4 q6
          go_wp2_with (first
            | (go_at_call 190; refine (number_any _ 4 _ (rest.take 4) _ (hr4.drewN _) (by omega)).mono ?_; rintro e w' ⟨rfl, rfl⟩)
            | (go_at_call 94; refine (laid_any _ _ (n - r) c m _ (l.take (n - r)) ((rest.drop 4).take m) _ (hA1.drewN _) (hc4'.drewN _) (by omega)).mono ?_; rintro e w2 ⟨A2, c2, rfl, ho2, hb2⟩)
            | (go_at_call 191; refine (crc_any _ _ c2 _ _ (Rd.of_own ho2) (by omega)).mono ?_; rintro e w' ⟨rfl, rfl⟩))
          have hc4'' := (hc4'.drewN _).mod0 (Mod.of_below hb2)
          go_region_held3 (fun _ => True) (exact trivial) ((go_at_call 93; refine (clone_any _ m _ ((rest.drop 4).take m) _ (hc4''.drewN 1) (by omega)).mono ?_; rintro e w3 ⟨A3, c3, rfl, ho3, hb3⟩))
          go_wp2
          go_ret3
          exact tfPost_some HF.out HL1.out HL2.out (own_mono ho3 (Nat.le_trans hsz1 hb2.size)) ((((hc5'.drewN _).mod0 (Mod.of_below hb2)).drewN 1).mod0 (Mod.of_below hb3)) (fun b hb => by cases hb; exact hbb) (by omega) (by omega) ((below_drewN HB1.out _).trans ((hb2.trans ((below_drewN (Below.refl _ w2) 1).trans (hb3.mono (Nat.le_refl _)) |>.mono hb2.size)).mono hsz1))
        · have hqb : (numFold (rest.take 4) != crcOf (l.take (n - r) ++ (rest.drop 4).take m)) = true := by simp [hq]
          have HF : Hid (takeFrame l most = none) := by
            show takeFrame l most = _
            rw [HTF.out, if_neg (by rw [HR.out]; omega), HR.out, if_neg hq]
          clear hq HTF
          go_quiet (fail)
          clear q1 q2 q3 q4 q5 q6 q7 q8 q9
          go_wp2_with (first
            | (go_at_call 190; refine (number_any _ 4 _ (rest.take 4) _ (hr4.drewN _) (by omega)).mono ?_; rintro e w' ⟨rfl, rfl⟩)
            | (go_at_call 94; refine (laid_any _ _ (n - r) c m _ (l.take (n - r)) ((rest.drop 4).take m) _ (hA1.drewN _) (hc4'.drewN _) (by omega)).mono ?_; rintro e w2 ⟨A2, c2, rfl, ho2, hb2⟩)
            | (go_at_call 191; refine (crc_any _ _ c2 _ _ (Rd.of_own ho2) (by omega)).mono ?_; rintro e w' ⟨rfl, rfl⟩))
          go_ret3
          exact tfPost_none HF.out ((below_drewN HB1.out _).trans (hb2.mono hsz1))

end Go.Proofs.YtgnpmmhpeianpaaGreatDoor

/- rows.take; the closures of numbers. -/
namespace Go.Proofs.YtgnpmmhpeianpaaGreatDoor
open Go.RowKit

/-- so many numbers, and what is behind them. -/
def takeN : Nat → List UInt8 → Option (List Nat × List UInt8)
  | 0, l => some ([], l)
  | n + 1, l => match takeNum l with
    | none => none
    | some (m, r) => match takeN n r with
      | none => none
      | some (ms, q) => some (m :: ms, q)
theorem takeN_more {n : Nat} {l r : List UInt8} {m : Nat} (h : takeNum l = some (m, r)) : takeN (n + 1) l = match takeN n r with
    | none => none
    | some (ms, q) => some (m :: ms, q) := by rw [takeN, h]

/-- numbers as cells. -/
def i64s (l : List Nat) : List Value := l.map fun m : Nat => .int .i64 (m : Int)
theorem i64s_one (l : List Nat) : ∀ u ∈ i64s l, u.oneCell' = true := by
  intro u hu
  simp only [i64s, List.mem_map] at hu
  obtain ⟨_, _, rfl⟩ := hu
  rfl
theorem one_i64 (w : World) (e : TypeId) (m : Nat) : Rd (w.alloc (.cells #[.int .i64 (m : Int)] e)) (some ⟨w.heap.size, 0, none⟩) 1 (i64s [m]) := by
  refine ⟨rfl, fun _ => ⟨w.heap.size, 0, rfl, fun j u hu => ?_⟩⟩
  rw [Nat.zero_add]
  have := (Blk.new w e #[.int .i64 (m : Int)]).cell j
  rw [this]
  simpa [i64s] using hu
set_option maxRecDepth 100000 in
theorem infoI : ∃ i, Tryz.prog.info? 3 = some i ∧ i.zero = some (.int .i64 0) ∧ i.size = 1 ∧ i.bytes = 8 := by
  first | exact ⟨_, by kernel_rfl, rfl, rfl, rfl⟩ | exact ⟨_, rfl, rfl, rfl, rfl⟩

/-- what take answers. -/
def TkPost (n : Nat) (l : List UInt8) (w : World) (e : Ending) (w' : World) : Prop := match takeN n l with
  | none => e = .returned (.tuple #[.slice none 0 0, .slice none 0 0, .bool false]) ∧ Mod Non w w'
  | some (ms, q) => ∃ A1 c1 A2 n2 c2, e = .returned (.tuple #[.slice A1 n c1, .slice A2 n2 c2, .bool true]) ∧ Rd w' A1 n (i64s ms) ∧ (n ≤ c1 ∧ c1 ≤ 9223372036854775807) ∧ q.length = n2 ∧ Rd w' A2 n2 (by8 q) ∧ (n2 ≤ c2 ∧ c2 ≤ 9223372036854775807 ∧ n2 ≤ 140737488355328) ∧ Mod Non w w'

/-- between two rounds of take. -/
structure TkM (n : Nat) (l : List UInt8) (w : World) (k : Nat) (ms : List Nat) (q : List UInt8) (v : Value) (A : Option Addr) (m c : Nat) (wr : World) : Prop where
  eq : takeN n l = match takeN (n - k) q with
    | none => none
    | some (x, y) => some (ms ++ x, y)
  own : wr.ownsRow w.heap.size 3 1 v k (i64s ms)
  rd : Rd wr A m (by8 q)
  mod : Mod Non w wr
  le : m ≤ c ∧ c ≤ 9223372036854775807 ∧ m ≤ 140737488355328

set_option maxRecDepth 100000 in
set_option maxHeartbeats 1000000 in
theorem takeW_any (A : Option Addr) (m c : Nat) (l : List UInt8) (n : Nat) (w : World) (h : Rd w A m (by8 l)) (hmc : m ≤ c) (hm : m ≤ 140737488355328) (hcm : c ≤ 9223372036854775807) (hn : n ≤ 100) :
    Calls Tryz.prog 35 #[.slice A m c, .int .i64 n] w (TkPost n l w) := by
  have h0 : TkM n l w 0 [] l (.slice none 0 0) A m c w := ⟨by
    rw [Nat.sub_zero]
    cases takeN n l with
    | none => rfl
    | some p => rfl, World.ownsRow_nil _ _ _ _, h, Mod.refl _ _, hmc, hcm, hm⟩
  have H0 := Lib.hid h0
  clear h0 h hmc hm hcm
  go_enter Tryz.func35, Tryz.ntmps35
  go_wp2_with fail
  go_loopw [0, 7, 12] (fun b v i wr => ∃ (k : Nat) (ms : List Nat) (q : List UInt8) (Aq : Option Addr) (mq cq : Nat), k ≤ n ∧ i = .int .i64 k ∧ b = .slice Aq mq cq ∧ Hid (TkM n l w k ms q v Aq mq cq wr)) (fun _ _ i _ => n - (intOf i).toNat)
  case atStart => exact ⟨0, [], l, A, m, c, Nat.zero_le _, rfl, rfl, H0.out⟩
  case round =>
    obtain ⟨k, ms, q, Aq, mq, cq, hk, rfl, rfl, HT⟩ := hrel
    rename World => wr
    obtain ⟨Av, cv, rfl, hcv1, hcv2⟩ := own_slice HT.out.own
    by_cases hlt : k < n
    · have i1 : (0 : Int) ≤ (k : Int) := by omega
      have i2 : (k : Int) < (n : Int) := by omega
      have htn := takeNum_any Aq mq cq q wr HT.out.rd HT.out.le.1 HT.out.le.2.2 HT.out.le.2.1
      have HTN := Lib.hid htn
      clear htn
      go_wp2_with fail
      refine HTN.out.mono ?_
      intro e w1 hp
      unfold TnPost at hp
      cases htq : takeNum q with
      | none =>
        rw [htq] at hp
        obtain ⟨rfl, rfl⟩ := hp
        have hnone : takeN n l = none := by
          rw [HT.out.eq, show n - k = (n - k - 1) + 1 by omega, takeN, htq]
        have HN := Lib.hid hnone
        clear hnone htq
        go_wp2_with fail
        go_ret3
        unfold TkPost
        rw [HN.out]
        exact ⟨rfl, HT.out.mod⟩
      | some p =>
        obtain ⟨x, r⟩ := p
        rw [htq] at hp
        obtain ⟨A1, c1, rfl, ho1, hb1⟩ := hp
        obtain ⟨A1', c1', he, hc1, hc2⟩ := own_slice ho1
        cases he
        have hrl := (takeNum_spec htq).1
        have hql : q.length = mq := by simpa using HT.out.rd.1
        obtain ⟨rn, hrn⟩ : ∃ rn, r.length = rn := ⟨_, rfl⟩
        rw [hrn] at ho1 hc1 hrl ⊢
        have hm1 : Mod Non wr w1 := Mod.of_below hb1
        have hown := own_mod HT.out.own hm1 fun _ _ h => h
        have hmx : maxLen = 9223372036854775807 := rfl
        have heq : takeN n l = match takeN (n - (k + 1)) r with
            | none => none
            | some (a, b) => some ((ms ++ [x]) ++ a, b) := by
          rw [HT.out.eq, show n - k = (n - (k + 1)) + 1 by omega, takeN_more htq]
          cases takeN (n - (k + 1)) r with
          | none => rfl
          | some p => simp
        have HEQ := Lib.hid heq
        have HR1 := Lib.hid (Rd.of_own ho1)
        have HBA := Lib.hid (own_base ho1)
        have HOL := Lib.hid fun j hj => (HT.out.own.lt j hj).2
        have HM1 := Lib.hid (HT.out.mod.trans0 hm1)
        have HO1 := Lib.hid hown
        have hle : mq ≤ 140737488355328 := HT.out.le.2.2
        have hsz := HM1.out.size
        obtain ⟨i, hi, hz, hs1, hb8⟩ := infoI
        clear heq hown hm1 hb1 ho1 htq hrn
        go_wp2_with (at_builtin; refine wpList_app _ rfl (.tmp 22) (.tmp 24) 71 rfl w.heap.size 3 i (.int .i64 0) 8 Tryz.underlying71 hi hz hs1 hb8 rfl (.slice Av k cv) k (i64s ms) rfl (own_mod HO1.out ((Mod.refl Non w1).alloc _) fun _ _ h => h) (some ⟨w1.heap.size, 0, none⟩) 1 1 (i64s [x]) rfl (one_i64 w1 3 x) (i64s_one _) (by omega) (by omega) (by rw [World.size_alloc]; omega) ?_; intro v' w2 ho2 hg2 hat2)
        go_roundw
        case rel =>
          have hm2 : Mod Non w w2 := (HM1.out.alloc _).grown hg2 fun j hj => .inr (HO1.out.lt j hj).1
          refine ⟨k + 1, ms ++ [x], r, A1, rn, c1, by omega, by go_num, rfl, HEQ.out, ?_, ?_, hm2, hc1, by omega, by omega⟩
          · have : i64s (ms ++ [x]) = i64s ms ++ i64s [x] := by simp [i64s]
            rw [this]
            exact ho2
          · refine (HR1.out.alloc (.cells #[.int .i64 (x : Int)] 3)).mod (Mod.of_grown (S := fun j => (Value.slice Av k cv).ownBlock = some j) hg2 fun _ h => h) fun _ b hb hs => ?_
            have h1 := HBA.out b hb
            have h2 := HOL.out b hs
            omega
        case measure => simp [intOf]; omega
    · obtain rfl : k = n := by omega
      have heq := HT.out.eq
      rw [Nat.sub_self, takeN] at heq
      simp only [List.append_nil] at heq
      have HEQ := Lib.hid heq
      have hmx : maxLen = 9223372036854775807 := rfl
      clear heq
      go_wp2_with fail
      go_ret3
      unfold TkPost
      rw [HEQ.out]
      exact ⟨Av, cv, Aq, mq, cq, rfl, Rd.of_own HT.out.own, ⟨hcv1, by omega⟩, by simpa using HT.out.rd.1, HT.out.rd, HT.out.le, HT.out.mod⟩

end Go.Proofs.YtgnpmmhpeianpaaGreatDoor
