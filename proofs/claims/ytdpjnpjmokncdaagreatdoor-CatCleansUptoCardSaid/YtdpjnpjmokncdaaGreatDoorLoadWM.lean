/- What a version that is loaded is; rows beside the law's disk. -/
import Derived.Test.YtdpjnpjmokncdaaGreatDoorB41
namespace Go.Proofs.YtdpjnpjmokncdaaGreatDoor
open Go.RowKit

theorem loadV_check {D : Dk} {v : Vs} (h : loadV D = some v) : checkV v = true := by
  unfold loadV at h
  split at h
  · cases h; decide
  · split at h
    · cases h
    · split at h
      · split at h
        · cases h
        · split at h
          · cases h
          · rename_i hd
            split at h
            · cases h; exact (decV_some hd).1
            · cases h
      · cases h

theorem Lw.row {w wr : World} {d : Nat} {F : Nat → Prop} {D : Dk} (h : Lw w d F D wr) {A : Option Addr} {n : Nat} {vs : List Value} (hr : Rd w A n vs) : RdO wr F A n vs :=
  ⟨hr.mod0 h.mod, fun hn b hb hf => by
    obtain ⟨b', hb', hl⟩ := hr.lt hn
    rw [hb] at hb'
    cases hb'
    have := h.far b hf
    omega⟩

end Go.Proofs.YtdpjnpjmokncdaaGreatDoor
