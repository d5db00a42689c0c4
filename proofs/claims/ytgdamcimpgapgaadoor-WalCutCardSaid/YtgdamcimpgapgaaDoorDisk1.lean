/- disk: made, right, cost, named, spend. -/
import Derived.Test.YtgdamcimpgapgaaDoorDisk0
import Derived.Deep.QuietTactic
import Derived.BigQuiet
namespace Go.Proofs.YtgdamcimpgapgaaDoor
open Go.RowKit

set_option maxRecDepth 100000 in
set_option maxHeartbeats 400000 in
theorem made_yes (d m : Nat) (w : World) (h : w.cell? ⟨d, 2, none⟩ = some (.map (some m))) : Calls Tryd.prog 34 #[.pointer (some ⟨d, 0, none⟩)] w fun e w' => e = .returned (.bool true) ∧ w = w' := by
  have hq := fun W => run_neq_map_nil (P := Tryd.prog) W 43 9 61 (some m) Tryd.underlying43
  go_enter Tryd.func34, Tryd.ntmps34
  go_wp2
  go_ret
  exact ⟨rfl, rfl⟩

set_option maxRecDepth 100000 in
set_option maxHeartbeats 400000 in
theorem made_no (w : World) : Calls Tryd.prog 34 #[.pointer none] w fun e w' => e = .returned (.bool false) ∧ w = w' := by
  go_enter Tryd.func34, Tryd.ntmps34
  go_wp2
  go_ret
  exact ⟨rfl, rfl⟩

set_option maxRecDepth 100000 in
set_option maxHeartbeats 400000 in
theorem cost_any (s : ByteArray) (n : Nat) (w : World) (hs : s.size ≤ 9000000000) (hn : n ≤ 140737488355328) : Calls Tryd.prog 26 #[.string s, .int .i64 n] w fun e w' => e = .returned (.int .i64 (16 + s.size + n)) ∧ w = w' := by
  go_enter Tryd.func26, Tryd.ntmps26
  go_wp2
  go_ret
  exact ⟨rfl, rfl⟩

set_option maxRecDepth 100000 in
set_option maxHeartbeats 400000 in
theorem named_any (s : ByteArray) (w : World) (hs : s.size ≤ 9223372036854775807) : Calls Tryd.prog 25 #[.string s] w fun e w' => e = .returned (.bool (named s)) ∧ w = w' := by
  obtain ⟨b, hb⟩ : ∃ b, named s = b := ⟨_, rfl⟩
  have HB := Lib.hid hb
  rw [hb]
  unfold named at hb
  have hc := Lib.hid (Tryd.strings_IndexByte s 0)
  obtain ⟨i, hi⟩ : ∃ i, Lib.indexByte s.data.toList 0 = i := ⟨_, rfl⟩
  have HI := Lib.hid hi
  rw [hi] at hb
  by_cases h1 : 1 ≤ s.size
  · by_cases h2 : s.size ≤ 100
    · have hbb : decide (i < 0) = b := by simpa [h1, h2] using hb
      clear hb hi
      go_enter Tryd.func25, Tryd.ntmps25
      go_wp2_with (go_at_call 42; refine (hc.out _).mono ?_; rintro e w' ⟨rfl, rfl⟩; rw [show Lib.indexByte s.data.toList (Int.toNat 0).toUInt8 = i from HI.out])
      go_ret
      exact ⟨rfl, rfl⟩
    · have hbb : b = false := by simpa [h1, h2] using hb.symm
      subst hbb
      have hd : decide ((s.size : Int) ≤ 100) = false := by simp; omega
      clear hb hi
      go_enter Tryd.func25, Tryd.ntmps25
      go_wp2_with fail
      go_ret
      exact ⟨rfl, rfl⟩
  · have hbb : b = false := by simpa [h1] using hb.symm
    subst hbb
    have hd : decide (1 ≤ (s.size : Int)) = false := by simp; omega
    clear hb hi
    go_enter Tryd.func25, Tryd.ntmps25
    go_wp2_with fail
    go_ret
    exact ⟨rfl, rfl⟩

end Go.Proofs.YtgdamcimpgapgaaDoor
