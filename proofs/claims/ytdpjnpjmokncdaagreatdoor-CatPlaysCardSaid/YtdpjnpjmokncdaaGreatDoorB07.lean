/- slices.Clone, code.laid at bytes: a row of the call's own that holds the same bytes. -/
import Derived.Test.YtdpjnpjmokncdaaGreatDoorB06
import Derived.Test.YtdpjnpjmokncdaaGreatDoorChecked
namespace Go.Proofs.YtdpjnpjmokncdaaGreatDoor
open Go.RowKit

theorem bt : ByteT Tryz.prog 44 5 := by
  refine ⟨Tryz.underlying44, ?_⟩
  obtain ⟨i, hi, h1, h2, h3⟩ := info_parts (P := Tryz.prog) (e := 5) (z := .int .u8 0) (size := 1) (bytes := 1) (by kernel_rfl)
  exact ⟨i, hi, h1, h2, h3⟩

set_option maxHeartbeats 400000 in
theorem clone_any (A : Option Addr) (n c : Nat) (l : List UInt8) (w : World) (h : Rd w A n (by8 l)) (hn : n ≤ 140737488355328) :
    Calls Tryz.prog 65 #[.slice A n c] w fun e w' => ∃ A' c', e = .returned (.slice A' n c') ∧ w'.ownsRow w.heap.size 5 1 (.slice A' n c') n (by8 l) ∧ Below w.heap.size w w' := by
  have heq := fun W => Lib.run_eql_slice_nil (P := Tryz.prog) W 44 5 A n c 0 0 Tryz.underlying44
  rcases A with _ | a
  · have h0 : n = 0 := by
      rcases Nat.eq_zero_or_pos n with h0 | h0
      · exact h0
      · obtain ⟨b, o, h, _⟩ := h.2 h0
        cases h
    subst h0
    have hl : by8 l = [] := List.eq_nil_of_length_eq_zero h.1
    go_enter Tryz.func65, Tryz.ntmps65
    go_wp2
    go_ret
    exact ⟨none, 0, rfl, by rw [hl]; exact World.ownsRow_nil _ _ _ _, Below.refl _ _⟩
  · go_enter Tryz.func65, Tryz.ntmps65
    have hown : (w.alloc (.cells #[] 5)).ownsRow w.heap.size 5 1 (.slice (some ⟨w.heap.size, 0, none⟩) 0 0) 0 (by8 []) := World.ownsRow_lit (size := 1) w #[] 0 (Nat.le_refl _) (by simp [maxLen]) rfl
    go_wp2_with (at_builtin; refine wpList_app8 bt _ rfl (.tmp 5) (.tmp 6) rfl w.heap.size (.slice (some ⟨w.heap.size, 0, none⟩) 0 0) 0 [] rfl hown _ n c l rfl (h.alloc _) n (by omega) l rfl (by omega) (by simp) ?_; intro A' c' w' hc' hown' hg' hat')
    go_ret
    exact ⟨A', c', rfl, hown', ((Below.refl _ w).alloc (Nat.le_refl _) _).grown hg' (by simp) (by simp [Value.ownBlock])⟩

set_option maxHeartbeats 400000 in
/-- 'laid(b, s)': b's bytes and s's in new memory. -/
theorem laid_any (A B : Option Addr) (n c m d : Nat) (l k : List UInt8) (w : World) (h : Rd w A n (by8 l)) (g : Rd w B m (by8 k)) (hn : n + m ≤ 140737488355328) :
    Calls Tryz.prog 124 #[.slice A n c, .slice B m d] w fun e w' => ∃ A' c', e = .returned (.slice A' (n + m) c') ∧ w'.ownsRow w.heap.size 5 1 (.slice A' (n + m) c') (n + m) (by8 (l ++ k)) ∧ Below w.heap.size w w' := by
  go_enter Tryz.func124, Tryz.ntmps124
  go_wp2_with (first
    | (go_at_call 65; refine (clone_any A n c l _ h (by omega)).mono ?_; rintro e w1 ⟨A1, c1, rfl, ho1, hb1⟩)
    | (at_builtin; refine wpList_app8 bt _ rfl (.tmp 6) (.tmp 7) rfl w.heap.size (.slice A1 n c1) n l rfl ho1 _ m d k rfl (g.mod0 (Mod.of_below hb1)) (n + m) rfl (l ++ k) rfl (by omega) hb1.size ?_; intro A' c' w' hc' hown' hg' hat'))
  go_ret
  exact ⟨A', c', rfl, hown', hb1.grown hg' hb1.size (fun j hj => (ho1.lt j hj).1)⟩

end Go.Proofs.YtdpjnpjmokncdaaGreatDoor
