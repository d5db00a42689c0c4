/- code.TakeFrame. -/
import Derived.Test.YtdpjnpjmokncdaaGreatDoorB22
import Derived.Deep.QuietTactic
import Derived.BigQuiet
import Derived.Deep.RegionWith
import Derived.Deep.RegionHeld3
namespace Go.Proofs.YtdpjnpjmokncdaaGreatDoor
open Go.RowKit

def takeFrame (l : List UInt8) (most : Int) : Option (List UInt8 × List UInt8) :=
  match takeNum l with
  | none => none
  | some (m, rest) =>
    if most < (m : Int) ∨ (rest.length : Int) - 4 < (m : Int) then none
    else if numFold (rest.take 4) = crcOf (l.take (l.length - rest.length) ++ (rest.drop 4).take m) then some ((rest.drop 4).take m, rest.drop (4 + m)) else none

theorem takeNum_spec {l rest : List UInt8} {m : Nat} (h : takeNum l = some (m, rest)) : rest.length ≤ l.length ∧ m ≤ 4611686018427387903 := by
  unfold takeNum at h
  split at h
  · cases h
  · rename_i hn
    simp only [Option.some.injEq, Prod.mk.injEq] at h
    obtain ⟨rfl, rfl⟩ := h
    exact ⟨by rw [List.length_drop]; omega, by omega⟩

/-- what TakeFrame answers. -/
def TfPost (l : List UInt8) (most : Int) (w : World) (e : Ending) (w' : World) : Prop :=
  match takeFrame l most with
  | none => e = .returned (.tuple #[.slice none 0 0, .slice none 0 0, .int .i64 2]) ∧ Below w.heap.size w w'
  | some (body, rest) => ∃ A' c' B' d', e = .returned (.tuple #[.slice A' body.length c', .slice B' rest.length d', .int .i64 0]) ∧ w'.ownsRow w.heap.size 5 1 (.slice A' body.length c') body.length (by8 body) ∧
      Rd w' B' rest.length (by8 rest) ∧ (∀ b, blkOf B' = some b → w.heap.size ≤ b) ∧ rest.length ≤ d' ∧ d' ≤ 9223372036854775807 ∧ Below w.heap.size w w'
theorem tfPost_none {l : List UInt8} {most : Int} {w w' : World} (h : takeFrame l most = none) (hb : Below w.heap.size w w') : TfPost l most w (.returned (.tuple #[.slice none 0 0, .slice none 0 0, .int .i64 2])) w' := by
  unfold TfPost; rw [h]; exact ⟨rfl, hb⟩

theorem tfPost_some {l body rest : List UInt8} {most : Int} {w w' : World} {A' B' : Option Addr} {n c' r d' : Nat} (h : takeFrame l most = some (body, rest)) (hn : body.length = n) (hr : rest.length = r)
    (ho : w'.ownsRow w.heap.size 5 1 (.slice A' n c') n (by8 body)) (hB : Rd w' B' r (by8 rest)) (hbb : ∀ b, blkOf B' = some b → w.heap.size ≤ b) (hd : r ≤ d') (hd2 : d' ≤ 9223372036854775807) (hb : Below w.heap.size w w') :
    TfPost l most w (.returned (.tuple #[.slice A' n c', .slice B' r d', .int .i64 0])) w' := by
  subst hn
  subst hr
  unfold TfPost; rw [h]; exact ⟨A', c', B', d', rfl, ho, hB, hbb, hd, hd2, hb⟩

set_option maxRecDepth 100000 in
set_option maxHeartbeats 1000000 in
theorem takeFrame_any (A : Option Addr) (n c : Nat) (l : List UInt8) (most : Int) (w : World) (h : Rd w A n (by8 l)) (hnc : n ≤ c) (hn : n ≤ 140737488351232) (hcm : c ≤ 9223372036854775807) :
    Calls Tryz.prog 84 #[.slice A n c, .int .i64 most] w (TfPost l most w) := by
  have hl : l.length = n := by simpa using h.1
  have HL := Lib.hid hl
  clear hl
  have hct := takeNum_any A n c l w h hnc (by omega) hcm
  rcases htn : takeNum l with _ | ⟨m, rest⟩
  · have HF : Hid (takeFrame l most = none) := by show takeFrame l most = none; unfold takeFrame; rw [htn]
    have hct' : Calls Tryz.prog 45 #[.slice A n c] w fun e w' => e = .returned (.tuple #[.int .i64 0, .slice none 0 0, .int .i64 2]) ∧ w = w' := hct.mono fun e w' hp => by unfold TnPost at hp; rw [htn] at hp; exact hp
    have HC := Lib.hid hct'
    clear hct hct' htn
    go_enter Tryz.func84, Tryz.ntmps84
    go_wp2_with (go_at_call 45; refine HC.out.mono ?_; rintro e w1 ⟨rfl, rfl⟩)
    go_ret3
    exact tfPost_none HF.out (Below.refl _ _)
  · have hct' : Calls Tryz.prog 45 #[.slice A n c] w fun e w' => ∃ A' c', e = .returned (.tuple #[.int .i64 (m : Nat), .slice A' rest.length c', .int .i64 0]) ∧ w'.ownsRow w.heap.size 5 1 (.slice A' rest.length c') rest.length (by8 rest) ∧ Below w.heap.size w w' := hct.mono fun e w' hp => by unfold TnPost at hp; rw [htn] at hp; exact hp
    have HC := Lib.hid hct'
    obtain ⟨hrl, hmm⟩ := takeNum_spec htn
    rw [HL.out] at hrl
    have htf : takeFrame l most = if most < (m : Int) ∨ (rest.length : Int) - 4 < (m : Int) then none
      else if numFold (rest.take 4) = crcOf (l.take (n - rest.length) ++ (rest.drop 4).take m) then some ((rest.drop 4).take m, rest.drop (4 + m)) else none := by
      unfold takeFrame; rw [htn, HL.out]
    have HTF := Lib.hid htf
    clear hct hct' htn htf
    by_cases hbig : most < (m : Int) ∨ (rest.length : Int) - 4 < (m : Int)
    · have HF : Hid (takeFrame l most = none) := by show takeFrame l most = none; rw [HTF.out, if_pos hbig]
      clear HTF
      rcases hbig with hbig | hbig
      all_goals
        go_enter Tryz.func84, Tryz.ntmps84
        go_wp2_with (go_at_call 45; refine HC.out.mono ?_; rintro e w1 ⟨A1, c1, rfl, ho1, hb1⟩)
        all_goals (go_ret3; exact tfPost_none HF.out hb1)
    · have hb1' : (m : Int) ≤ most := by omega
      have hb2' : (m : Int) + 4 ≤ (rest.length : Int) := by omega
      clear hbig
      obtain ⟨r, hr⟩ : ∃ r, rest.length = r := ⟨_, rfl⟩
      have HR := Lib.hid hr
      rw [hr] at hrl hb2' HC
      clear hr
      go_enter Tryz.func84, Tryz.ntmps84
      go_wp2_with (go_at_call 45; refine HC.out.mono ?_; rintro e w1 ⟨A1, c1, rfl, ho1, hb1⟩)
      have hcc := (own_slice ho1)
      have hc1 : r ≤ c1 ∧ c1 ≤ maxLen := by
        obtain ⟨A9, c9, e9, h1, h2⟩ := hcc
        injection e9 with _ _ e
        subst e
        exact ⟨h1, h2⟩
      clear hcc
      obtain ⟨hc1, hc2⟩ := hc1
      unfold maxLen at hc2
      have HB1 := Lib.hid hb1
      have hsz1 := hb1.size
      clear hb1
      have hr1 := Rd.of_own ho1
      have hA1 := (h.mod0 (Mod.of_below HB1.out)).take (k := n - r) (by omega)
      rw [← by8_take] at hA1
      obtain ⟨b1, o1, rfl, hcells⟩ := hr1.2 (by omega)
      have hbb : w.heap.size ≤ b1 := own_base ho1 b1 rfl
      clear hcells ho1
      have hr4 : Rd w1 (some ⟨b1, o1, none⟩) 4 (by8 (rest.take 4)) := by rw [by8_take]; exact hr1.take (by omega)
      have hc4 := (hr1.cut (k := 4) (cap := c1) (by omega) hc1).take (k := m) (by omega)
      have hc5 := hr1.cut (k := 4 + m) (cap := c1) (by omega) hc1
      rw [← by8_drop] at hc5
      rw [← by8_drop, ← by8_take] at hc4
      have hbl : (l.take (n - r)).length = n - r := by rw [List.length_take, HL.out]; omega
      have HBL := Lib.hid hbl
      clear hbl hr1
      have hcb := crcOf_bd (l.take (n - r) ++ (rest.drop 4).take m)
      obtain ⟨hcb1, hcb2⟩ := hcb
      have hnb := numFold_bd (rest.take 4)
      have q1 : IntKind.i64.wrap ((n : Int) - (r : Int)) = (n : Int) - (r : Int) := IntWalk.i64_in _ (by omega)
      have q2 : IntKind.i64.wrap (4 + (m : Int)) = 4 + (m : Int) := IntWalk.i64_in _ (by omega)
      have q3 : 0 ≤ (n : Int) - (r : Int) := by omega
      have q4 : ((n : Int) - (r : Int)).toNat = n - r := by omega
      have q5 : (4 + (m : Int)).toNat = 4 + m := by omega
      have q6 : (n : Int) - (r : Int) ≤ (c : Int) := by omega
      have q7 : 4 + (m : Int) ≤ (c1 : Int) := by omega
      have q8 : 4 + (m : Int) ≤ (r : Int) := by omega
      have q9 : 0 ≤ 4 + (m : Int) := by omega
      have hlen1 : ((rest.drop 4).take m).length = m := by rw [List.length_take, List.length_drop, HR.out]; omega
      have hlen2 : (rest.drop (4 + m)).length = r - (4 + m) := by rw [List.length_drop, HR.out]
      have HL1 := Lib.hid hlen1
      have HL2 := Lib.hid hlen2
      clear hlen1 hlen2
      have three : (c1 = 4 ∧ r ≤ 4 ∧ m = 0) ∨ (¬ c1 = 4 ∧ c1 = 4 + m ∧ r ≤ 4 + m) ∨ (¬ c1 = 4 ∧ ¬ c1 = 4 + m) := by omega
      rcases three with ⟨rfl, hr4', rfl⟩ | ⟨e1, rfl, hr4'⟩ | ⟨e1, e2⟩
      · have hc5' : Rd w1 (some ⟨b1, o1, none⟩) 0 (by8 (rest.drop 4)) := by
          have h0 : Rd w1 (some ⟨b1, o1, none⟩) (r - 4) (by8 (rest.drop 4)) := hc5
          rwa [show r - 4 = 0 from by omega] at h0
        have HTF0 : Hid (takeFrame l most = if numFold (rest.take 4) = crcOf (l.take (n - r)) then some ([], rest.drop 4) else none) := by
          show takeFrame l most = _
          rw [HTF.out, if_neg (by rw [HR.out]; omega), HR.out, List.take_zero, List.append_nil]
        have HL3 : Hid ((rest.drop 4).length = 0) := by
          have h0 : (rest.drop 4).length = r - 4 := HL2.out
          show (rest.drop 4).length = 0
          omega
        have hcb1 := (crcOf_bd (l.take (n - r))).1
        have hcb2 := (crcOf_bd (l.take (n - r))).2
        clear hc4 hc5 HTF HL1 HL2 q2 q5 q7 q8 q9
        by_cases hq : numFold (rest.take 4) = crcOf (l.take (n - r))
        · have hqb : (numFold (rest.take 4) != crcOf (l.take (n - r))) = false := by simp [hq]
          have HF : Hid (takeFrame l most = some ([], rest.drop 4)) := by
            show takeFrame l most = _
            rw [HTF0.out, if_pos hq]
          clear hq HTF0
          have hrr : (4 : Int) ≤ (r : Int) := by omega
          have hw4 : IntKind.i64.wrap 4 = 4 := by decide
          go_quiet (fail)
          clear q1 q3 q4 q6
          go_wp2_with (first
            | (go_at_call 129; refine (number_any _ 4 4 (rest.take 4) _ (hr4.drewN _) (by omega)).mono ?_; rintro e w' ⟨rfl, rfl⟩)
            | (go_at_call 124; refine (laid_any _ _ (n - r) c 0 _ (l.take (n - r)) [] _ (hA1.drewN _) (Rd.nil _ _) (by omega)).mono ?_; rintro e w2 ⟨A2, c2, rfl, ho2, hb2⟩; rw [Nat.add_zero, List.append_nil] at ho2)
            | (go_at_call 123; refine (crc_any _ _ c2 _ _ (Rd.of_own ho2) (by omega)).mono ?_; rintro e w' ⟨rfl, rfl⟩))
          go_region_held3 (fun _ => True) (exact trivial) ((go_at_call 65; refine (clone_any _ 0 _ [] _ (Rd.nil _ _) (by omega)).mono ?_; rintro e w3 ⟨A3, c3, rfl, ho3, hb3⟩))
          go_wp2
          go_ret3
          exact tfPost_some HF.out rfl HL3.out (own_mono ho3 (Nat.le_trans hsz1 hb2.size)) ((((hc5'.drewN _).mod0 (Mod.of_below hb2)).drewN 1).mod0 (Mod.of_below hb3)) (fun b hb => by cases hb; exact hbb) (by omega) (by omega) ((below_drewN HB1.out _).trans ((hb2.trans ((below_drewN (Below.refl _ w2) 1).trans (hb3.mono (Nat.le_refl _)) |>.mono hb2.size)).mono hsz1))
        · have hqb : (numFold (rest.take 4) != crcOf (l.take (n - r))) = true := by simp [hq]
          have HF : Hid (takeFrame l most = none) := by
            show takeFrame l most = _
            rw [HTF0.out, if_neg hq]
          clear hq HTF0
          go_quiet (fail)
          clear q1 q3 q4 q6
          go_wp2_with (first
            | (go_at_call 129; refine (number_any _ 4 4 (rest.take 4) _ (hr4.drewN _) (by omega)).mono ?_; rintro e w' ⟨rfl, rfl⟩)
            | (go_at_call 124; refine (laid_any _ _ (n - r) c 0 _ (l.take (n - r)) [] _ (hA1.drewN _) (Rd.nil _ _) (by omega)).mono ?_; rintro e w2 ⟨A2, c2, rfl, ho2, hb2⟩; rw [Nat.add_zero, List.append_nil] at ho2)
            | (go_at_call 123; refine (crc_any _ _ c2 _ _ (Rd.of_own ho2) (by omega)).mono ?_; rintro e w' ⟨rfl, rfl⟩))
          go_ret3
          exact tfPost_none HF.out ((below_drewN HB1.out _).trans (hb2.mono hsz1))
      · rw [if_neg e1] at hc4
        rw [if_pos rfl] at hc5
        have hc4' : Rd w1 (some ⟨b1, o1 + 4, none⟩) m (by8 ((rest.drop 4).take m)) := hc4
        have hc5' : Rd w1 (some ⟨b1, o1, none⟩) 0 (by8 (rest.drop (4 + m))) := by
          rwa [show r - (4 + m) = 0 from by omega] at hc5
        have HL2' : Hid ((rest.drop (4 + m)).length = 0) := by
          have h0 := HL2.out
          show (rest.drop (4 + m)).length = 0
          omega
        clear HL2
        have HL2 := HL2'
        clear HL2'
        clear hc4 hc5
        by_cases hq : numFold (rest.take 4) = crcOf (l.take (n - r) ++ (rest.drop 4).take m)
        · have hqb : (numFold (rest.take 4) != crcOf (l.take (n - r) ++ (rest.drop 4).take m)) = false := by simp [hq]
          have HF : Hid (takeFrame l most = some ((rest.drop 4).take m, rest.drop (4 + m))) := by
            show takeFrame l most = _
            rw [HTF.out, if_neg (by rw [HR.out]; omega), HR.out, if_pos hq]
          clear hq HTF
          go_quiet (fail)
          clear q1 q3 q4 q6
          go_wp2_with (first
            | (go_at_call 129; refine (number_any _ 4 _ (rest.take 4) _ (hr4.drewN _) (by omega)).mono ?_; rintro e w' ⟨rfl, rfl⟩)
            | (go_at_call 124; refine (laid_any _ _ (n - r) c m _ (l.take (n - r)) ((rest.drop 4).take m) _ (hA1.drewN _) (hc4'.drewN _) (by omega)).mono ?_; rintro e w2 ⟨A2, c2, rfl, ho2, hb2⟩)
            | (go_at_call 123; refine (crc_any _ _ c2 _ _ (Rd.of_own ho2) (by omega)).mono ?_; rintro e w' ⟨rfl, rfl⟩))
          have hc4'' := (hc4'.drewN _).mod0 (Mod.of_below hb2)
          go_region_held3 (fun _ => True) (exact trivial) ((go_at_call 65; refine (clone_any _ m _ ((rest.drop 4).take m) _ (hc4''.drewN 1) (by omega)).mono ?_; rintro e w3 ⟨A3, c3, rfl, ho3, hb3⟩))
          go_wp2
          go_ret3
          exact tfPost_some HF.out HL1.out HL2.out (own_mono ho3 (Nat.le_trans hsz1 hb2.size)) ((((hc5'.drewN _).mod0 (Mod.of_below hb2)).drewN 1).mod0 (Mod.of_below hb3)) (fun b hb => by cases hb; exact hbb) (by omega) (by omega) ((below_drewN HB1.out _).trans ((hb2.trans ((below_drewN (Below.refl _ w2) 1).trans (hb3.mono (Nat.le_refl _)) |>.mono hb2.size)).mono hsz1))
        · have hqb : (numFold (rest.take 4) != crcOf (l.take (n - r) ++ (rest.drop 4).take m)) = true := by simp [hq]
          have HF : Hid (takeFrame l most = none) := by
            show takeFrame l most = _
            rw [HTF.out, if_neg (by rw [HR.out]; omega), HR.out, if_neg hq]
          clear hq HTF
          go_quiet (fail)
          clear q1 q2 q3 q4 q5 q6 q7 q8 q9
          go_wp2_with (first
            | (go_at_call 129; refine (number_any _ 4 _ (rest.take 4) _ (hr4.drewN _) (by omega)).mono ?_; rintro e w' ⟨rfl, rfl⟩)
            | (go_at_call 124; refine (laid_any _ _ (n - r) c m _ (l.take (n - r)) ((rest.drop 4).take m) _ (hA1.drewN _) (hc4'.drewN _) (by omega)).mono ?_; rintro e w2 ⟨A2, c2, rfl, ho2, hb2⟩)
            | (go_at_call 123; refine (crc_any _ _ c2 _ _ (Rd.of_own ho2) (by omega)).mono ?_; rintro e w' ⟨rfl, rfl⟩))
          go_ret3
          exact tfPost_none HF.out ((below_drewN HB1.out _).trans (hb2.mono hsz1))
      · rw [if_neg e1] at hc4
        rw [if_neg e2] at hc5
        have hc4' : Rd w1 (some ⟨b1, o1 + 4, none⟩) m (by8 ((rest.drop 4).take m)) := hc4
        have hc5' : Rd w1 (some ⟨b1, o1 + (4 + m), none⟩) (r - (4 + m)) (by8 (rest.drop (4 + m))) := by
          have := hc5
          simp only [Option.map_some, Addr.add] at this
          rwa [if_neg (by omega)] at this
        clear hc4 hc5
        by_cases hq : numFold (rest.take 4) = crcOf (l.take (n - r) ++ (rest.drop 4).take m)
        · have hqb : (numFold (rest.take 4) != crcOf (l.take (n - r) ++ (rest.drop 4).take m)) = false := by simp [hq]
          have HF : Hid (takeFrame l most = some ((rest.drop 4).take m, rest.drop (4 + m))) := by
            show takeFrame l most = _
            rw [HTF.out, if_neg (by rw [HR.out]; omega), HR.out, if_pos hq]
          clear hq HTF
          go_quiet (fail)
          clear q1 q3 q4 q6
          go_wp2_with (first
            | (go_at_call 129; refine (number_any _ 4 _ (rest.take 4) _ (hr4.drewN _) (by omega)).mono ?_; rintro e w' ⟨rfl, rfl⟩)
            | (go_at_call 124; refine (laid_any _ _ (n - r) c m _ (l.take (n - r)) ((rest.drop 4).take m) _ (hA1.drewN _) (hc4'.drewN _) (by omega)).mono ?_; rintro e w2 ⟨A2, c2, rfl, ho2, hb2⟩)
            | (go_at_call 123; refine (crc_any _ _ c2 _ _ (Rd.of_own ho2) (by omega)).mono ?_; rintro e w' ⟨rfl, rfl⟩))
          have hc4'' := (hc4'.drewN _).mod0 (Mod.of_below hb2)
          go_region_held3 (fun _ => True) (exact trivial) ((go_at_call 65; refine (clone_any _ m _ ((rest.drop 4).take m) _ (hc4''.drewN 1) (by omega)).mono ?_; rintro e w3 ⟨A3, c3, rfl, ho3, hb3⟩))
          go_wp2
          go_ret3
          exact tfPost_some HF.out HL1.out HL2.out (own_mono ho3 (Nat.le_trans hsz1 hb2.size)) ((((hc5'.drewN _).mod0 (Mod.of_below hb2)).drewN 1).mod0 (Mod.of_below hb3)) (fun b hb => by cases hb; exact hbb) (by omega) (by omega) ((below_drewN HB1.out _).trans ((hb2.trans ((below_drewN (Below.refl _ w2) 1).trans (hb3.mono (Nat.le_refl _)) |>.mono hb2.size)).mono hsz1))
        · have hqb : (numFold (rest.take 4) != crcOf (l.take (n - r) ++ (rest.drop 4).take m)) = true := by simp [hq]
          have HF : Hid (takeFrame l most = none) := by
            show takeFrame l most = _
            rw [HTF.out, if_neg (by rw [HR.out]; omega), HR.out, if_neg hq]
          clear hq HTF
          go_quiet (fail)
          clear q1 q2 q3 q4 q5 q6 q7 q8 q9
          go_wp2_with (first
            | (go_at_call 129; refine (number_any _ 4 _ (rest.take 4) _ (hr4.drewN _) (by omega)).mono ?_; rintro e w' ⟨rfl, rfl⟩)
            | (go_at_call 124; refine (laid_any _ _ (n - r) c m _ (l.take (n - r)) ((rest.drop 4).take m) _ (hA1.drewN _) (hc4'.drewN _) (by omega)).mono ?_; rintro e w2 ⟨A2, c2, rfl, ho2, hb2⟩)
            | (go_at_call 123; refine (crc_any _ _ c2 _ _ (Rd.of_own ho2) (by omega)).mono ?_; rintro e w' ⟨rfl, rfl⟩))
          go_ret3
          exact tfPost_none HF.out ((below_drewN HB1.out _).trans (hb2.mono hsz1))

end Go.Proofs.YtdpjnpjmokncdaaGreatDoor

/- A frame taken is shorter. Plain. -/
namespace Go.Proofs.YtdpjnpjmokncdaaGreatDoor
open Go.RowKit

theorem takeFrame_lt {l body rest : List UInt8} {most : Int} (h : takeFrame l most = some (body, rest)) : rest.length < l.length ∧ body.length ≤ l.length := by
  unfold takeFrame at h
  split at h
  · cases h
  · rename_i m r0 htn
    split at h
    · cases h
    · rename_i hm
      split at h
      · simp only [Option.some.injEq, Prod.mk.injEq] at h
        obtain ⟨rfl, rfl⟩ := h
        have := (takeNum_spec htn).1
        simp only [List.length_drop, List.length_take]
        omega
      · cases h

end Go.Proofs.YtdpjnpjmokncdaaGreatDoor
