/- An engine as it lies in memory. -/
import Derived.Test.YtiomlnhfhmpejaaGreatDoorB05
import Derived.Test.YtiomlnhfhmpejaaGreatDoorB09
import Derived.Test.YtiomlnhfhmpejaaGreatDoorB10
namespace Go.Proofs.YtiomlnhfhmpejaaGreatDoor
open Go.RowKit

/-- an engine without tables. -/
structure Eg where
  D : Dk
  mem : List Tw
  seq : Int
  log : Int
  pins : List (Int × Int)
def pinV (l : List (Int × Int)) : List (Int × Value) := l.map fun p => (p.1, .int .i64 p.2)
def egCells (d l tm pm : Nat) (E : Eg) : Array Value := #[.pointer (some ⟨d, 0, none⟩), .int .i64 0, .int .i64 0, .int .i64 0, .int .i64 0, .slice none 0 0, .map (some tm), .pointer (some ⟨l, 0, none⟩), .int .i64 E.seq, .int .i64 E.log, .map (some pm)]

/-- The parts of an engine: its block e, its disk, its list, its two maps. -/
structure EgAt (w : World) (e d l tm pm : Nat) (Fd Fl : Nat → Prop) (E : Eg) : Prop where
  blk : Blk w e 106 (egCells d l tm pm E)
  disk : DiskIs w Fd d E.D
  list : LsIs w Fl l E.mem
  tmap : MapAt (Value.int .i64) w tm []
  pmap : MapAt (Value.int .i64) w pm (pinV E.pins)
  et : e ≠ tm
  ep : e ≠ pm
  tp : tm ≠ pm
  fd : ∀ k, Fd k → k ≠ e ∧ k ≠ tm ∧ k ≠ pm ∧ ¬ Fl k
  fl : ∀ k, Fl k → k ≠ e ∧ k ≠ tm ∧ k ≠ pm
  pow : ¬ Fl powG ∧ powG ≠ e ∧ powG ≠ tm ∧ powG ≠ pm
def EgIs (w : World) (F : Nat → Prop) (e : Nat) (E : Eg) : Prop :=
  ∃ d l tm pm Fd Fl, EgAt w e d l tm pm Fd Fl E ∧ ∀ k, F k ↔ (k = e ∨ k = tm ∨ k = pm ∨ Fd k ∨ Fl k)

section
variable {w w' : World} {F S Fd Fl : Nat → Prop} {e d l tm pm : Nat} {E : Eg}
theorem LsIs.lt {xs : List Tw} (h : LsIs w F l xs) : ∀ k, F k → k < w.heap.size := by obtain ⟨_, _, _, _, _, _, _, h6⟩ := h; exact h6
theorem DiskIs.flt {D : Dk} (h : DiskIs w F d D) : ∀ k, F k → k < w.heap.size := by obtain ⟨_, _, _, _, _, _, _, _, h6⟩ := h; exact h6
theorem DiskIs.pow {D : Dk} (h : DiskIs w F d D) : ¬ F powG := by obtain ⟨_, _, _, _, _, _, _, h5, _⟩ := h; exact h5
theorem EgAt.mod (h : EgAt w e d l tm pm Fd Fl E) (hm : Mod S w w') (he : ¬ S e) (ht : ¬ S tm) (hp : ¬ S pm) (hd : ∀ k, Fd k → ¬ S k) (hl : ∀ k, Fl k → ¬ S k) (hpw : ¬ S powG) : EgAt w' e d l tm pm Fd Fl E :=
  ⟨h.blk.mod hm he, h.disk.mod hm hd hpw, h.list.mod hm hl, h.tmap.mod hm ht, h.pmap.mod hm hp, h.et, h.ep, h.tp, h.fd, h.fl, h.pow⟩
theorem EgAt.mod0 (h : EgAt w e d l tm pm Fd Fl E) (hm : Mod Non w w') : EgAt w' e d l tm pm Fd Fl E := h.mod hm (fun h => h) (fun h => h) (fun h => h) (fun _ _ h => h) (fun _ _ h => h) fun h => h
theorem EgIs.mod (h : EgIs w F e E) (hm : Mod S w w') (hS : ∀ k, F k → ¬ S k) (hpw : ¬ S powG) : EgIs w' F e E := by
  obtain ⟨d, l, tm, pm, Fd, Fl, h1, h2⟩ := h
  exact ⟨d, l, tm, pm, Fd, Fl, h1.mod hm (hS _ ((h2 _).2 (.inl rfl))) (hS _ ((h2 _).2 (.inr (.inl rfl)))) (hS _ ((h2 _).2 (.inr (.inr (.inl rfl))))) (fun k hk => hS k ((h2 k).2 (.inr (.inr (.inr (.inl hk)))))) (fun k hk => hS k ((h2 k).2 (.inr (.inr (.inr (.inr hk)))))) hpw, h2⟩
theorem EgIs.mod0 (h : EgIs w F e E) (hm : Mod Non w w') : EgIs w' F e E := h.mod hm (fun _ _ h => h) fun h => h
theorem EgIs.lt (h : EgIs w F e E) : ∀ k, F k → k < w.heap.size := by
  obtain ⟨d, l, tm, pm, Fd, Fl, h1, h2⟩ := h
  intro k hk
  rcases (h2 k).1 hk with rfl | rfl | rfl | hk | hk
  · exact h1.blk.lt
  · exact h1.tmap.lt
  · exact h1.pmap.lt
  · exact h1.disk.flt k hk
  · exact h1.list.lt k hk
theorem EgIs.pow (h : EgIs w F e E) : ¬ F powG := by
  obtain ⟨d, l, tm, pm, Fd, Fl, h1, h2⟩ := h
  intro hk
  rcases (h2 powG).1 hk with hk | hk | hk | hk | hk
  · exact h1.pow.2.1 hk
  · exact h1.pow.2.2.1 hk
  · exact h1.pow.2.2.2 hk
  · exact h1.disk.pow hk
  · exact h1.pow.1 hk
theorem EgIs.lay (h : EgIs w F e E) : Lay w := by obtain ⟨d, l, tm, pm, Fd, Fl, h1, h2⟩ := h; exact h1.disk.lay
end

end Go.Proofs.YtiomlnhfhmpejaaGreatDoor
