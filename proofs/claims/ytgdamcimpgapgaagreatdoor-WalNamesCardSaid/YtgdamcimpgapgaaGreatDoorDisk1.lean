/- disk: made, right, cost, named, spend. -/
import Derived.Test.YtgdamcimpgapgaaGreatDoorDisk0
import Derived.Deep.QuietTactic
import Derived.BigQuiet
namespace Go.Proofs.YtgdamcimpgapgaaGreatDoor
open Go.RowKit

set_option maxRecDepth 100000 in
set_option maxHeartbeats 400000 in
theorem made_yes (d m : Nat) (w : World) (h : w.cell? ⟨d, 2, none⟩ = some (.map (some m))) : Calls Tryz.prog 25 #[.pointer (some ⟨d, 0, none⟩)] w fun e w' => e = .returned (.bool true) ∧ w = w' := by
  have hq := fun W => run_neq_map_nil (P := Tryz.prog) W 61 9 69 (some m) Tryz.underlying61
  go_enter Tryz.func25, Tryz.ntmps25
  go_wp2
  go_ret
  exact ⟨rfl, rfl⟩

set_option maxRecDepth 100000 in
set_option maxHeartbeats 400000 in
theorem made_no (w : World) : Calls Tryz.prog 25 #[.pointer none] w fun e w' => e = .returned (.bool false) ∧ w = w' := by
  go_enter Tryz.func25, Tryz.ntmps25
  go_wp2
  go_ret
  exact ⟨rfl, rfl⟩

set_option maxRecDepth 100000 in
set_option maxHeartbeats 400000 in
theorem cost_any (s : ByteArray) (n : Nat) (w : World) (hs : s.size ≤ 9000000000) (hn : n ≤ 140737488355328) : Calls Tryz.prog 72 #[.string s, .int .i64 n] w fun e w' => e = .returned (.int .i64 (16 + s.size + n)) ∧ w = w' := by
  go_enter Tryz.func72, Tryz.ntmps72
  go_wp2
  go_ret
  exact ⟨rfl, rfl⟩

set_option maxRecDepth 100000 in
set_option maxHeartbeats 400000 in
theorem named_any (s : ByteArray) (w : World) (hs : s.size ≤ 9223372036854775807) : Calls Tryz.prog 71 #[.string s] w fun e w' => e = .returned (.bool (named s)) ∧ w = w' := by
  obtain ⟨b, hb⟩ : ∃ b, named s = b := ⟨_, rfl⟩
  have HB := Lib.hid hb
  rw [hb]
  unfold named at hb
  have hc := Lib.hid (Tryz.strings_IndexByte s 0)
  obtain ⟨i, hi⟩ : ∃ i, Lib.indexByte s.data.toList 0 = i := ⟨_, rfl⟩
  have HI := Lib.hid hi
  rw [hi] at hb
  by_cases h1 : 1 ≤ s.size
  · by_cases h2 : s.size ≤ 100
    · have hbb : decide (i < 0) = b := by simpa [h1, h2] using hb
      clear hb hi
      go_enter Tryz.func71, Tryz.ntmps71
      go_wp2_with (go_at_call 100; refine (hc.out _).mono ?_; rintro e w' ⟨rfl, rfl⟩; rw [show Lib.indexByte s.data.toList (Int.toNat 0).toUInt8 = i from HI.out])
      go_ret
      exact ⟨rfl, rfl⟩
    · have hbb : b = false := by simpa [h1, h2] using hb.symm
      subst hbb
      have hd : decide ((s.size : Int) ≤ 100) = false := by simp; omega
      clear hb hi
      go_enter Tryz.func71, Tryz.ntmps71
      go_wp2_with fail
      go_ret
      exact ⟨rfl, rfl⟩
  · have hbb : b = false := by simpa [h1] using hb.symm
    subst hbb
    have hd : decide (1 ≤ (s.size : Int)) = false := by simp; omega
    clear hb hi
    go_enter Tryz.func71, Tryz.ntmps71
    go_wp2_with fail
    go_ret
    exact ⟨rfl, rfl⟩

end Go.Proofs.YtgdamcimpgapgaaGreatDoor
