/- Two segments on a disk that is never cut. Plain. -/
import Derived.Test.YtgdamcimpgapgaaGreatDoorPlain6
import Derived.Test.YtgdamcimpgapgaaGreatDoorSameI
import Derived.Test.YtgdamcimpgapgaaGreatDoorMasks
namespace Go.Proofs.YtgdamcimpgapgaaGreatDoor
open Go.RowKit

/-- the bodies l lie in segment X; no file but X's and Y's. -/
structure ApP (X Y : Int) (D : Dk) (l : List (List UInt8)) (q : Nat) : Prop where
  ok : DkOk D
  calm : Calm D
  n : D.n = 1099511627776
  used : D.used ≤ 1200000 * (q : Int)
  file : (l = [] ∧ findF D.files (nameW X) = none) ∨ (l ≠ [] ∧ ∃ s, findF D.files (nameW X) = some ⟨nameW X, s, framesB l⟩)
  names : ∀ f ∈ D.files, f.name = nameW X ∨ f.name = nameW Y
  small : ∀ b ∈ l, b.length ≤ 1048576

theorem ApP.start (X Y : Int) : ApP X Y (newD 1099511627776) [] 0 :=
  ⟨newD_ok (by omega) (by omega), newD_calm _, rfl, by simp [newD], .inl ⟨rfl, rfl⟩, by simp [newD], by simp⟩
theorem ApP.later {X Y : Int} {D : Dk} {l : List (List UInt8)} {q q' : Nat} (h : ApP X Y D l q) (hq : q ≤ q') : ApP X Y D l q' :=
  ⟨h.ok, h.calm, h.n, by have := h.used; have : (q : Int) ≤ (q' : Int) := by omega
                         omega, h.file, h.names, h.small⟩
theorem ApP.fileB {X Y : Int} {D : Dk} {l : List (List UInt8)} {q : Nat} (h : ApP X Y D l q) : Go.Proofs.YtgdamcimpgapgaaGreatDoor.fileB D (nameW X) = framesB l := by
  rcases h.file with ⟨h1, h2⟩ | ⟨_, s, h2⟩
  · rw [fileB_none h2, h1]; rfl
  · rw [fileB_of h2]
theorem need_small {D : Dk} {n : Int} {b : List UInt8} (hb : b.length ≤ 1048576) : needW D n b ≤ 1200000 := by
  have h1 := frameB_len hb
  have h2 := nameW_size n
  unfold needW
  split <;> omega
theorem ApP.addX {X Y : Int} {D : Dk} {l : List (List UInt8)} {q : Nat} (h : ApP X Y D l q) (h0 : 0 ≤ X) (h1 : X ≤ 1099511627776) (hq : q ≤ 100) {b : List UInt8} (hb : b.length ≤ 1048576) :
    (addB D X b).2 = 0 ∧ ApP X Y (addB D X b).1 (l ++ [b]) (q + 1) := by
  have hn := need_small (D := D) (n := X) hb
  have hu := h.used
  have hN := h.n
  obtain ⟨a, g⟩ := add_grew h.calm h.ok h0 h1 hb (by omega)
  refine ⟨a, add_ok h.ok X b, g.calm, by rw [g.n, hN], by rw [g.used]; push_cast; omega, .inr ⟨by simp, ?_⟩, fun f hf => ?_, fun c hc => ?_⟩
  · obtain ⟨s, hs⟩ := g.file
    rw [h.fileB] at hs
    exact ⟨s, by rw [hs, framesB_append]; simp [framesB]⟩
  · rcases add_names D X b f hf with e | e
    · exact .inl e
    · obtain ⟨f', hf', e'⟩ := List.mem_map.1 e
      rw [← e']; exact h.names f' hf'
  · rcases List.mem_append.1 hc with hc | hc
    · exact h.small c hc
    · simp only [List.mem_singleton] at hc; subst hc; exact hb
theorem ApP.addY {X Y : Int} {D : Dk} {l : List (List UInt8)} {q : Nat} (h : ApP X Y D l q) (hXY : nameW X ≠ nameW Y) (h0 : 0 ≤ Y) (h1 : Y ≤ 1099511627776) (hq : q ≤ 100) {b : List UInt8} (hb : b.length ≤ 1048576) :
    ApP X Y (addB D Y b).1 l (q + 1) := by
  have hn := need_small (D := D) (n := Y) hb
  have hu := h.used
  have hN := h.n
  obtain ⟨a, g⟩ := add_grew h.calm h.ok h0 h1 hb (by omega)
  refine ⟨add_ok h.ok Y b, g.calm, by rw [g.n, hN], by rw [g.used]; push_cast; omega, ?_, fun f hf => ?_, h.small⟩
  · rw [g.other _ hXY]; exact h.file
  · rcases add_names D Y b f hf with e | e
    · exact .inr e
    · obtain ⟨f', hf', e'⟩ := List.mem_map.1 e
      rw [← e']; exact h.names f' hf'
theorem ApP.addAny {X Y : Int} {D : Dk} {l : List (List UInt8)} {q : Nat} (h : ApP X Y D l q) (hXY : nameW X ≠ nameW Y) (h0 : 0 ≤ Y) (h1 : Y ≤ 1099511627776) (hq : q ≤ 100) (b : List UInt8) :
    ApP X Y (addB D Y b).1 l (q + 1) := by
  by_cases hb : b.length ≤ 1048576
  · exact h.addY hXY h0 h1 hq hb
  · rw [add_big (by omega)]; exact h.later (by omega)
/-- what X replays. -/
theorem ApP.replay {X Y : Int} {D : Dk} {l : List (List UInt8)} {q : Nat} (h : ApP X Y D l q) : (l = [] ∧ findF D.files (nameW X) = none) ∨ (l ≠ [] ∧ ∃ f, findF D.files (nameW X) = some f ∧ replayB f.bytes = l) := by
  rcases h.file with h1 | ⟨h1, s, h2⟩
  · exact .inl h1
  · refine .inr ⟨h1, _, h2, ?_⟩
    have := replayB_frames l [] h.small
    rwa [List.append_nil, replayB_nil, List.append_nil] at this
/-- and behind a drop of Y. -/
theorem ApP.drop {X Y : Int} {D : Dk} {l : List (List UInt8)} {q : Nat} (h : ApP X Y D l q) (hXY : nameW X ≠ nameW Y) (h0 : 0 ≤ Y) (h1 : Y ≤ 1099511627776) :
    DkOk (dropD D Y) ∧ findF (dropD D Y).files (nameW X) = findF D.files (nameW X) ∧ ∀ f ∈ (dropD D Y).files, f.name = nameW X := by
  obtain ⟨_, c2, c3⟩ := drop_calm h.calm h.ok h0 h1
  refine ⟨?_, c2 _ hXY, fun f hf => ?_⟩
  · unfold dropD; rw [if_pos ⟨h0, h1⟩]; exact removeD_ok h.ok _
  · obtain ⟨a, b⟩ := c3 f hf
    exact (h.names f a).resolve_right b

end Go.Proofs.YtgdamcimpgapgaaGreatDoor
