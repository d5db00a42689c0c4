/- strconv.Atoi at whatever string. -/
import Derived.Test.YtdpjnpjmokncdaaGreatDoorB01
import Derived.Test.YtdpjnpjmokncdaaGreatDoorShelf
import Derived.Shelf.Strconv.AtoiAll
namespace Go.Proofs.YtdpjnpjmokncdaaGreatDoor
open Go.RowKit Go.Shelf

/-- the two error variables of strconv hold errors. -/
def ErrCell (w : World) (g : Nat) : Prop := ∃ t p, w.cell? ⟨g, 0, none⟩ = some (.iface t p)
structure Errs (w : World) : Prop where
  sy : ErrCell w 1
  rg : ErrCell w 2
theorem ErrCell.mod0 {w w' : World} {g : Nat} (h : ErrCell w g) (hm : Mod Non w w') : ErrCell w' g := by
  obtain ⟨t, p, h⟩ := h
  exact ⟨t, p, hm.cell h (fun h => h)⟩
theorem Errs.mod0 {w w' : World} (h : Errs w) (hm : Mod Non w w') : Errs w' := ⟨h.sy.mod0 hm, h.rg.mod0 hm⟩

theorem atoi_ok (s : ByteArray) (v : Int) (w : World) (hl : s.size ≤ 281474976710656) (h : Lib.atoiAll s.data.toList = .ok v) :
    Calls Tryz.prog 83 #[.string s] w fun e w' => e = .returned (.tuple #[.int .i64 v, .nilIface]) ∧ Mod Non w w' :=
  (Tryz.strconv_Atoi_ok s (by omega) v h w).mono fun e w' ⟨he, hw⟩ => ⟨he, by
    rcases hw with rfl | ⟨t, rfl⟩
    · exact Mod.refl _ _
    · exact Mod.of_below (Lib.bytesWorld_below _ _ _)⟩
theorem atoi_no (s : ByteArray) (w : World) (hE : Errs w) (hl : s.size ≤ 281474976710656) (h : ∀ v, Lib.atoiAll s.data.toList ≠ .ok v) :
    Calls Tryz.prog 83 #[.string s] w fun e w' => ∃ (x : Int) (N : Nat), e = .returned (.tuple #[.int .i64 x, .iface 201 (.pointer (some ⟨N, 0, none⟩))]) ∧ Mod Non w w' := by
  rcases hA : Lib.atoiAll s.data.toList with v | _ | _
  · exact absurd hA (h v)
  · obtain ⟨t, p, hc⟩ := hE.sy
    exact (Any.strconv_Atoi_syntax Tryz.laysC172 s hl hA _ w hc (.inr ⟨_, _, rfl⟩)).mono fun e w' ⟨N, he, _, _, hb⟩ => ⟨_, N, he, Mod.of_below hb⟩
  · obtain ⟨t, p, hc⟩ := hE.rg
    exact (Tryz.strconv_Atoi_range s hl hA _ w hc (.inr ⟨_, _, rfl⟩)).mono fun e w' ⟨N, he, _, _, hb⟩ => ⟨_, N, he, Mod.of_below hb⟩

theorem size_mk (l : List UInt8) : (⟨l.toArray⟩ : ByteArray).size = l.length := List.size_toArray
theorem size_dat (s : ByteArray) : s.data.toList.length = s.size := Array.length_toList
theorem trim_len (l k : List UInt8) : (Lib.trimPrefix l k).length ≤ l.length := by
  unfold Lib.trimPrefix
  split
  · simp
  · exact Nat.le_refl _


end Go.Proofs.YtdpjnpjmokncdaaGreatDoor
