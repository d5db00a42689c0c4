/- sawyerlaw05.sameInts. -/
import Derived.Test.YtgdamcimpgapgaaGreatDoorSegs
import Derived.Test.YtgdamcimpgapgaaGreatDoorCode4
import Derived.BigQuiet
import Derived.Deep.QuietTactic
namespace Go.Proofs.YtgdamcimpgapgaaGreatDoor
open Go.RowKit

set_option maxRecDepth 100000 in
set_option maxHeartbeats 1000000 in
theorem sameInts_any (A B : Option Addr) (n m c d : Nat) (xs ys : List Int) (w : World) (hx : Rd w A n (xs.map i64c)) (hy : Rd w B m (ys.map i64c)) (hn : n ≤ 9223372036854775807) (hm : m ≤ 9223372036854775807) :
    Calls Tryz.prog 15 #[.slice A n c, .slice B m d] w fun e w' => e = .returned (.bool (decide (xs = ys))) ∧ Mod Non w w' := by
  have hlx : xs.length = n := by simpa using hx.1
  have hly : ys.length = m := by simpa using hy.1
  by_cases hnm : n = m
  · subst hnm
    have HLX := Lib.hid hlx
    have HLY := Lib.hid hly
    have HX := Lib.hid hx
    have HY := Lib.hid hy
    clear hlx hly hx hy
    go_enter Tryz.func15, Tryz.ntmps15
    go_wp2
    go_loopw [5] (fun i wr => ∃ k : Nat, k ≤ n ∧ i = .int .i64 k ∧ Mod Non w wr ∧ Hid (xs.take k = ys.take k)) (fun i _ => n - (intOf i).toNat)
    case atStart => exact ⟨0, Nat.zero_le _, rfl, Mod.refl _ _, rfl⟩
    case round =>
      obtain ⟨k, hk, rfl, hmod, HE⟩ := hrel
      have HM := Lib.hid hmod
      clear hmod
      by_cases hlt : k < n
      · obtain ⟨b, o, rfl, u, hu, hc⟩ := (HX.out.mod0 HM.out).at_ hlt
        obtain ⟨b', o', rfl, u', hu', hc'⟩ := (HY.out.mod0 HM.out).at_ hlt
        rw [List.getElem?_map] at hu hu'
        cases hq : xs[k]? with
        | none => rw [hq] at hu; cases hu
        | some x =>
          cases hq' : ys[k]? with
          | none => rw [hq'] at hu'; cases hu'
          | some y =>
            rw [hq] at hu
            rw [hq'] at hu'
            simp only [Option.map_some, Option.some.injEq] at hu hu'
            subst hu
            subst hu'
            have HQ := Lib.hid hq
            have HQ' := Lib.hid hq'
            simp only [i64c] at hc hc'
            have i1 : (0 : Int) ≤ (k : Int) := by omega
            have i2 : (k : Int) < (n : Int) := by omega
            clear hq hq'
            by_cases he : x = y
            · subst he
              go_wp2
              go_quiet (fail)
              go_wp2
              go_roundw
              case rel =>
                refine ⟨k + 1, by omega, by go_num, HM.out.drewN _, ?_⟩
                show xs.take (k + 1) = ys.take (k + 1)
                rw [take_snoc' _ k x HQ.out, take_snoc' ys k x HQ'.out, HE.out]
              case measure => simp [intOf]; omega
            · have hs2 : (x == y) = false := beq_eq_false_iff_ne.2 he
              go_wp2
              go_quiet (fail)
              go_wp2
              go_ret
              have e0 : decide (xs = ys) = false := decide_eq_false fun e => by
                rw [e, HQ'.out] at HQ
                have := HQ.out
                simp only [Option.some.injEq] at this
                exact he this.symm
              exact ⟨by rw [e0]; rfl, HM.out.drewN _⟩
      · obtain rfl : k = n := by omega
        go_wp2
        go_ret
        have e0 : decide (xs = ys) = true := decide_eq_true (by
          have e := HE.out
          rwa [List.take_of_length_le (by rw [HLX.out]; omega), List.take_of_length_le (by rw [HLY.out]; omega)] at e)
        exact ⟨by rw [e0]; rfl, HM.out⟩
  · have h1 : ((n : Int) == (m : Int)) = false := by simp; omega
    have h2 : ¬ ((n : Int) = (m : Int)) := by omega
    go_enter Tryz.func15, Tryz.ntmps15
    go_wp2
    go_ret
    have e0 : decide (xs = ys) = false := decide_eq_false fun e => by
      have := congrArg List.length e
      omega
    exact ⟨by rw [e0]; rfl, Mod.refl _ _⟩

end Go.Proofs.YtgdamcimpgapgaaGreatDoor
