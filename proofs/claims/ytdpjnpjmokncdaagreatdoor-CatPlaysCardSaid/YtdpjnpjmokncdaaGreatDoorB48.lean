/- sawyerref04.SameFiles, at files that are the same. -/
import Derived.Test.YtdpjnpjmokncdaaGreatDoorB13
import Derived.Test.YtdpjnpjmokncdaaGreatDoorB15
namespace Go.Proofs.YtdpjnpjmokncdaaGreatDoor
open Go.RowKit

set_option maxRecDepth 100000 in
set_option maxHeartbeats 1000000 in
theorem sameFiles_eq (A B : Option Addr) (n c d : Nat) (xs ys : List Fc) (w : World) (hx : RdF w A n xs) (hy : RdF w B n ys) (he : xs.map (·.f) = ys.map (·.f)) (hn : n ≤ 9223372036854775807) :
    Calls Tryz.prog 28 #[.slice A n c, .slice B n d] w fun e w' => e = .returned (.bool true) ∧ ∃ q, w' = w.drewN q := by
  have HX := Lib.hid hx
  have HY := Lib.hid hy
  have HE := Lib.hid he
  clear hx hy he
  go_enter Tryz.func28, Tryz.ntmps28
  go_wp2_with fail
  go_loopw [5] (fun i wr => ∃ k q : Nat, k ≤ n ∧ i = .int .i64 k ∧ wr = w.drewN q) (fun i _ => n - (intOf i).toNat)
  case atStart => exact ⟨0, 0, Nat.zero_le _, rfl, rfl⟩
  case round =>
    obtain ⟨k, q, hk, rfl, rfl⟩ := hrel
    by_cases hlt : k < n
    · obtain ⟨b, o, x, rfl, hxk, g0, g1, g2⟩ := HX.out.1.file hlt
      obtain ⟨b', o', y, rfl, hyk, k0, k1, k2⟩ := HY.out.1.file hlt
      have hf : x.f = y.f := by
        have := congrArg (fun l => l[k]?) HE.out
        simpa [List.getElem?_map, hxk, hyk] using this
      have hrx := HX.out.2 x (List.mem_of_getElem? hxk)
      have hry := HY.out.2 y (List.mem_of_getElem? hyk)
      rw [← hf] at k0 k1 k2 hry
      obtain ⟨⟨fn, fs, fb⟩, xA, xc⟩ := x
      simp only at g0 g1 g2 k0 k1 k2 hrx hry
      have h1 := fun j => conv_str (P := Tryz.prog) (w.drewN j) 44 9 5 xA fb.length xc fb Tryz.underlying44 Tryz.underlying5 Tryz.underlying9 (hrx.drewN j)
      have h2 := fun j => conv_str (P := Tryz.prog) (w.drewN j) 44 9 5 y.A fb.length y.c fb Tryz.underlying44 Tryz.underlying5 Tryz.underlying9 (hry.drewN j)
      have i0 : (0 : Int) ≤ (k : Int) := by omega
      have i1 : (k : Int) < (n : Int) := by omega
      clear hxk hyk hf hrx hry
      go_wp2_with fail
      go_quiet (fail)
      clear h1 h2
      go_wp2_with fail
      go_roundw
      case rel => exact ⟨k + 1, _, by omega, by go_num, rfl⟩
      case measure => simp [intOf]; omega
    · obtain rfl : k = n := by omega
      go_wp2_with fail
      go_ret
      exact ⟨rfl, q, rfl⟩

end Go.Proofs.YtdpjnpjmokncdaaGreatDoor
