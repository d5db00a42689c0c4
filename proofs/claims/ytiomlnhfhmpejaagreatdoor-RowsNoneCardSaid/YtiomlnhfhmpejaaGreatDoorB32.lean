/- code.PutText. -/
import Derived.Test.YtiomlnhfhmpejaaGreatDoorB13
import Derived.Lib.AppendStr
namespace Go.Proofs.YtiomlnhfhmpejaaGreatDoor
open Go.RowKit

theorem strCells_by8 (s : ByteArray) : Lib.strCells s = by8 s.data.toList := by
  unfold Lib.strCells by8
  simp [b8]
theorem rd_new (w : World) (t : TypeId) (vs : List Value) : Rd (w.alloc (.cells vs.toArray t)) (some ⟨w.heap.size, 0, none⟩) vs.length vs := by
  refine ⟨rfl, fun _ => ⟨w.heap.size, 0, rfl, fun j u hu => ?_⟩⟩
  rw [Nat.zero_add]
  have := (Blk.new w t vs.toArray).cell j
  rw [this]
  simpa using hu

set_option maxRecDepth 100000 in
set_option maxHeartbeats 400000 in
/-- 'laid(b, s)' at a text. -/
theorem laidS_any (A : Option Addr) (n c : Nat) (l : List UInt8) (s : ByteArray) (w : World) (h : Rd w A n (by8 l)) (hn : n + s.size ≤ 140737488355328) :
    Calls Tryz.prog 187 #[.slice A n c, .string s] w fun e w' => ∃ A' c', e = .returned (.slice A' (n + s.size) c') ∧ w'.ownsRow w.heap.size 5 1 (.slice A' (n + s.size) c') (n + s.size) (by8 (l ++ s.data.toList)) ∧ n + s.size ≤ c' ∧ c' ≤ 9223372036854775807 ∧ Below w.heap.size w w' := by
  obtain ⟨i, hi, hz, h1, h2⟩ := bt.info
  have hmx : maxLen = 9223372036854775807 := rfl
  go_enter Tryz.func187, Tryz.ntmps187
  go_wp2_with (first
    | (go_at_call 123; refine (clone_any A n c l _ h (by omega)).mono ?_; rintro e w1 ⟨A1, c1, rfl, ho1, hb1⟩)
    | (at_builtin; refine Lib.wpList_append_own_string _ rfl (.tmp 6) (.tmp 7) 54 9 rfl w.heap.size 5 i Tryz.underlying54 Tryz.underlying9 hi hz h1 h2 (.slice A1 n c1) n (by8 l) rfl ho1 s rfl (by omega) (by omega) hb1.size ?_; intro v' w' hown' hg' hnil'))
  obtain ⟨A', c', rfl, hc1, hc2⟩ := own_slice hown'
  go_ret
  rw [strCells_by8, ← by8_append] at hown'
  exact ⟨A', c', rfl, hown', hc1, by omega, hb1.grown hg' hb1.size (fun j hj => (ho1.lt j hj).1)⟩

set_option maxRecDepth 100000 in
set_option maxHeartbeats 400000 in
theorem putText_any (A : Option Addr) (n c : Nat) (l : List UInt8) (s : ByteArray) (w : World) (h : Rd w A n (by8 l)) (hn : n + s.size ≤ 140737488351232) :
    Calls Tryz.prog 127 #[.slice A n c, .string s] w fun e w' => ∃ A' n' c', e = .returned (.slice A' n' c') ∧ n' = (l ++ textB s.data.toList).length ∧ Rd w' A' n' (by8 (l ++ textB s.data.toList)) ∧ n' ≤ c' ∧ c' ≤ 9223372036854775807 ∧ Mod Non w w' := by
  have hll : l.length = n := by simpa using h.1
  have hsz : s.data.toList.length = s.size := Array.length_toList
  have h9 := nB_len (s.size : Int)
  obtain ⟨R, hR⟩ : ∃ R, l ++ textB s.data.toList = R := ⟨_, rfl⟩
  have hRe : (l ++ nB (s.size : Int)) ++ s.data.toList = R := by rw [← hR]; unfold textB; rw [hsz, List.append_assoc]
  have hRl : n + (nB (s.size : Int)).length + s.size = R.length := by rw [← hRe]; simp [hll]; omega
  rw [hR]
  have hpn := putNum_any A n c l (s.size : Int) w h (by omega)
  obtain ⟨L, hL⟩ : ∃ L, nB (s.size : Int) = L := ⟨_, rfl⟩
  have hL2 : numB (clampN (s.size : Int)) = L := hL
  rw [hL2] at hpn
  rw [hL] at h9 hRe hRl
  have HPN := Lib.hid hpn
  have HRE := Lib.hid hRe
  have HRL := Lib.hid hRl
  clear hpn hL hL2 hR hRe hRl hsz h hll
  go_enter Tryz.func127, Tryz.ntmps127
  go_wp2_with fail
  refine HPN.out.mono ?_
  rintro e w1 ⟨A1, c1, rfl, ho1, hb1⟩
  have hr1 := Rd.of_own ho1
  have HR1 := Lib.hid hr1
  have HM1 := Lib.hid (Mod.of_below (S := Non) hb1)
  clear hr1 ho1 hb1
  go_wp2_with fail
  refine (laidS_any A1 (n + L.length) c1 (l ++ L) s _ HR1.out (by omega)).mono ?_
  rintro e w2 ⟨A2, c2, rfl, ho2, hc1, hc2, hb2⟩
  have hr2 := Rd.of_own ho2
  have HR2 := Lib.hid hr2
  have HM2 := Lib.hid (HM1.out.trans0 (Mod.of_below (S := Non) hb2))
  clear hr2 ho2 hb2
  go_wp2_with fail
  go_ret
  refine ⟨A2, n + L.length + s.size, c2, rfl, HRL.out, ?_, hc1, hc2, HM2.out⟩
  have := HR2.out
  rwa [HRE.out] at this

end Go.Proofs.YtiomlnhfhmpejaaGreatDoor
