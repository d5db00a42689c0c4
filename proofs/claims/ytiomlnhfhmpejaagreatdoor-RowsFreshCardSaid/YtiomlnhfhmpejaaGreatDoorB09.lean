/- The disk as a plain thing, and what it is in memory. -/
import Derived.Test.YtiomlnhfhmpejaaGreatDoorB06
import Derived.Test.YtiomlnhfhmpejaaGreatDoorB08
namespace Go.Proofs.YtiomlnhfhmpejaaGreatDoor
open Go.RowKit

/-- a file. -/
structure Fl where
  name : ByteArray
  safe : Nat
  bytes : List UInt8
/-- a disk. -/
structure Dk where
  n : Int
  used : Int
  files : List Fl
  done : Int
  left : Int
  off : Bool

def findF : List Fl → ByteArray → Option Fl
  | [], _ => none
  | f :: r, k => if f.name = k then some f else findF r k
def putF : List Fl → Fl → List Fl
  | [], g => [g]
  | f :: r, g => if f.name = g.name then g :: r else f :: putF r g
def delF : List Fl → ByteArray → List Fl
  | [], _ => []
  | f :: r, k => if f.name = k then r else f :: delF r k

/-- may a name be? -/
def named (s : ByteArray) : Bool := decide (1 ≤ s.size) && (decide (s.size ≤ 100) && decide (Lib.indexByte s.data.toList 0 < 0))
def costF (f : Fl) : Int := 16 + f.name.size + f.bytes.length
def usedF : List Fl → Int
  | [] => 0
  | f :: r => costF f + usedF r

/-- a file as the map holds it. -/
def FlAt (w : World) (G : Nat → Prop) (p : ByteArray × Value) (f : Fl) : Prop :=
  p.1 = f.name ∧ ∃ A c, p.2 = .agg #[.string f.name, .int .i64 (f.safe : Int), .slice A f.bytes.length c] ∧ Rd w A f.bytes.length (by8 f.bytes) ∧ f.bytes.length ≤ c ∧ c ≤ 9223372036854775807 ∧ ∀ b, blkOf A = some b → G b
def FilesAt (w : World) (G : Nat → Prop) : List (ByteArray × Value) → List Fl → Prop
  | [], [] => True
  | p :: r, f :: s => FlAt w G p f ∧ FilesAt w G r s
  | _, _ => False

section
variable {w w' : World} {G G' S : Nat → Prop}
theorem FlAt.mod {p : ByteArray × Value} {f : Fl} (h : FlAt w G p f) (hm : Mod S w w') (hS : ∀ k, G k → ¬ S k) (hG : ∀ k, G k → G' k) : FlAt w' G' p f := by
  obtain ⟨h1, A, c, h2, h3, h4, h5, h6⟩ := h
  exact ⟨h1, A, c, h2, h3.mod hm fun _ b hb => hS b (h6 b hb), h4, h5, fun b hb => hG b (h6 b hb)⟩
theorem FilesAt.mod (hm : Mod S w w') (hS : ∀ k, G k → ¬ S k) (hG : ∀ k, G k → G' k) : ∀ {kvs : List (ByteArray × Value)} {fs : List Fl}, FilesAt w G kvs fs → FilesAt w' G' kvs fs
  | [], [], _ => trivial
  | _ :: _, _ :: _, h => ⟨h.1.mod hm hS hG, FilesAt.mod hm hS hG h.2⟩
  | [], _ :: _, h => h.elim
  | _ :: _, [], h => h.elim
theorem FilesAt.none_ (k : ByteArray) : ∀ {kvs : List (ByteArray × Value)} {fs : List Fl}, FilesAt w G kvs fs → findF fs k = none → lookKV kvs k = none
  | [], [], _, _ => rfl
  | p :: r, f :: s, h, hf => by
    rw [findF] at hf
    split at hf
    · cases hf
    · rename_i hn
      rw [lookKV, if_neg (by rw [h.1.1]; exact hn)]
      exact FilesAt.none_ k h.2 hf
  | [], _ :: _, h, _ => h.elim
  | _ :: _, [], h, _ => h.elim
theorem FilesAt.some_ (k : ByteArray) {f : Fl} : ∀ {kvs : List (ByteArray × Value)} {fs : List Fl}, FilesAt w G kvs fs → findF fs k = some f → ∃ v, lookKV kvs k = some v ∧ FlAt w G (k, v) f
  | [], [], _, hf => by cases hf
  | p :: r, g :: s, h, hf => by
    rw [findF] at hf
    split at hf
    · rename_i he
      cases hf
      exact ⟨p.2, by rw [lookKV, if_pos (by rw [h.1.1]; exact he)], by
        obtain ⟨h1, h2⟩ := h.1
        exact ⟨he.symm, h2⟩⟩
    · rename_i hn
      obtain ⟨v, h1, h2⟩ := FilesAt.some_ k h.2 hf
      exact ⟨v, by rw [lookKV, if_neg (by rw [h.1.1]; exact hn)]; exact h1, h2⟩
  | [], _ :: _, h, _ => h.elim
  | _ :: _, [], h, _ => h.elim
theorem FilesAt.put {f : Fl} {v : Value} (hv : FlAt w G (f.name, v) f) : ∀ {kvs : List (ByteArray × Value)} {fs : List Fl}, FilesAt w G kvs fs → FilesAt w G (putKV kvs f.name v) (putF fs f)
  | [], [], _ => ⟨hv, trivial⟩
  | p :: r, g :: s, h => by
    rw [putKV, putF]
    by_cases he : g.name = f.name
    · rw [if_pos he, if_pos (by rw [h.1.1]; exact he)]
      exact ⟨hv, h.2⟩
    · rw [if_neg he, if_neg (by rw [h.1.1]; exact he)]
      exact ⟨h.1, FilesAt.put hv h.2⟩
  | [], _ :: _, h => h.elim
  | _ :: _, [], h => h.elim
theorem FilesAt.del (k : ByteArray) : ∀ {kvs : List (ByteArray × Value)} {fs : List Fl}, FilesAt w G kvs fs → FilesAt w G (delKV kvs k) (delF fs k)
  | [], [], _ => trivial
  | p :: r, g :: s, h => by
    rw [delKV, delF]
    by_cases he : g.name = k
    · rw [if_pos he, if_pos (by rw [h.1.1]; exact he)]
      exact h.2
    · rw [if_neg he, if_neg (by rw [h.1.1]; exact he)]
      exact ⟨h.1, FilesAt.del k h.2⟩
  | [], _ :: _, h => h.elim
  | _ :: _, [], h => h.elim
end

/-- the cells of a disk. -/
def dkCells (D : Dk) (m : Nat) : Array Value := #[.int .i64 D.n, .int .i64 D.used, .map (some m), .int .i64 D.done, .int .i64 D.left, .bool D.off]

/-- The parts of a disk in memory: block d holds its cells, block m its map; the files' bytes lie in blocks of G. -/
structure DkAt (w : World) (G : Nat → Prop) (d m : Nat) (kvs : List (ByteArray × Value)) (D : Dk) : Prop where
  blk : Blk w d 94 (dkCells D m)
  map : MapAt Value.string w m kvs
  files : FilesAt w G kvs D.files
  dm : d ≠ m
  gd : ∀ k, G k → k ≠ d ∧ k ≠ m
  lay : Lay w
  pd : powG ≠ d
  pm : powG ≠ m

/-- A disk at block d, with all its blocks among F. -/
def DiskIs (w : World) (F : Nat → Prop) (d : Nat) (D : Dk) : Prop :=
  ∃ G m kvs, DkAt w G d m kvs D ∧ F d ∧ F m ∧ (∀ k, G k → F k) ∧ ¬ F powG ∧ ∀ k, F k → k < w.heap.size

section
variable {w w' : World} {F G S : Nat → Prop} {d m : Nat} {kvs : List (ByteArray × Value)} {D : Dk}
theorem DkAt.mod (h : DkAt w G d m kvs D) (hm : Mod S w w') (hd : ¬ S d) (hmm : ¬ S m) (hG : ∀ k, G k → ¬ S k) (hp : ¬ S powG) : DkAt w' G d m kvs D :=
  ⟨h.blk.mod hm hd, h.map.mod hm hmm, h.files.mod hm hG fun _ h => h, h.dm, h.gd, h.lay.mod hm hp, h.pd, h.pm⟩
theorem DkAt.mod0 (h : DkAt w G d m kvs D) (hm : Mod Non w w') : DkAt w' G d m kvs D := h.mod hm (fun h => h) (fun h => h) (fun _ _ h => h) fun h => h
theorem DiskIs.mod (h : DiskIs w F d D) (hm : Mod S w w') (hS : ∀ k, F k → ¬ S k) (hp : ¬ S powG) : DiskIs w' F d D := by
  obtain ⟨G, m, kvs, h1, h2, h3, h4, h5, h6⟩ := h
  exact ⟨G, m, kvs, h1.mod hm (hS _ h2) (hS _ h3) (fun k hk => hS k (h4 k hk)) hp, h2, h3, h4, h5, fun k hk => Nat.lt_of_lt_of_le (h6 k hk) hm.size⟩
theorem DiskIs.mod0 (h : DiskIs w F d D) (hm : Mod Non w w') : DiskIs w' F d D := h.mod hm (fun _ _ h => h) fun h => h
theorem DiskIs.lay (h : DiskIs w F d D) : Lay w := by obtain ⟨G, m, kvs, h1, _⟩ := h; exact h1.lay
theorem DiskIs.lt (h : DiskIs w F d D) : d < w.heap.size := by obtain ⟨G, m, kvs, h1, _⟩ := h; exact h1.blk.lt
/-- a cell of the disk turned. -/
theorem DkAt.set_ (h : DkAt w G d m kvs D) (i : Nat) (u : Value) (D' : Dk) (hf : D'.files = D.files) (hc : (dkCells D m).setIfInBounds i u = dkCells D' m) : DkAt (w.setCell ⟨d, i, none⟩ u) G d m kvs D' := by
  have hm : Mod (fun k => k = d) w (w.setCell ⟨d, i, none⟩ u) := Mod.setCell (S := fun k => k = d) (p := ⟨d, i, none⟩) (Mod.refl _ w) (.inl rfl) u
  refine ⟨?_, h.map.mod hm (fun e => h.dm e.symm), ?_, h.dm, h.gd, h.lay.mod hm h.pd, h.pd, h.pm⟩
  · rw [← hc]; exact h.blk.set_ i u
  · rw [hf]; exact h.files.mod hm (fun k hk => (h.gd k hk).1) fun _ h => h
/-- a file stored. -/
theorem DkAt.stored {v : Value} {f : Fl} {B : Nat} (h : DkAt w G d m kvs D) (hp : MapAt Value.string w' m (putKV kvs f.name v)) (hm : Mod (fun k => k = m) w w') {G' : Nat → Prop} (hG : ∀ k, G k → G' k) (hv : FlAt w' G' (f.name, v) f) (hG' : ∀ k, G' k → G k ∨ B ≤ k) (hdl : d < B) (hml : m < B) :
    DkAt w' G' d m (putKV kvs f.name v) { D with files := putF D.files f } := by
  exact ⟨h.blk.mod hm h.dm, hp, FilesAt.put hv (h.files.mod hm (fun k hk => (h.gd k hk).2) hG), h.dm, fun k hk => by
    rcases hG' k hk with h1 | h1
    · exact h.gd k h1
    · omega, h.lay.mod hm h.pm, h.pd, h.pm⟩
/-- a file taken away. -/
theorem DkAt.dropped {k : ByteArray} (h : DkAt w G d m kvs D) (hp : MapAt Value.string w' m (delKV kvs k)) (hm : Mod (fun k => k = m) w w') : DkAt w' G d m (delKV kvs k) { D with files := delF D.files k } :=
  ⟨h.blk.mod hm h.dm, hp, FilesAt.del k (h.files.mod hm (fun k hk => (h.gd k hk).2) fun _ h => h), h.dm, h.gd, h.lay.mod hm h.pm, h.pd, h.pm⟩
/-- the end of a call on the disk. -/
theorem dk_fin {G' : Nat → Prop} (h : DkAt w' G' d m kvs D) (hd : F d) (hm : F m) (hp : ¬ F powG) (hl : ∀ k, F k → k < w.heap.size) (hG : ∀ k, G' k → F k ∨ (w.heap.size ≤ k ∧ k < w'.heap.size)) (hmod : Mod F w w') (hpl : powG < w.heap.size) :
    ∃ F', DiskIs w' F' d D ∧ Mod F w w' ∧ ∀ k, F' k → F k ∨ w.heap.size ≤ k :=
  ⟨fun k => F k ∨ (w.heap.size ≤ k ∧ k < w'.heap.size), ⟨G', m, kvs, h, .inl hd, .inl hm, hG, fun e => by
    rcases e with e | e
    · exact hp e
    · omega, fun k hk => by
    rcases hk with hk | hk
    · exact Nat.lt_of_lt_of_le (hl k hk) hmod.size
    · exact hk.2⟩, hmod, fun k hk => hk.imp id fun h => h.1⟩
theorem DkAt.setUsed (h : DkAt w G d m kvs D) (x : Int) : DkAt (w.setCell ⟨d, 1, none⟩ (.int .i64 x)) G d m kvs { D with used := x } := h.set_ 1 _ _ rfl rfl
theorem DkAt.setDone (h : DkAt w G d m kvs D) (x : Int) : DkAt (w.setCell ⟨d, 3, none⟩ (.int .i64 x)) G d m kvs { D with done := x } := h.set_ 3 _ _ rfl rfl
theorem DkAt.setLeft (h : DkAt w G d m kvs D) (x : Int) : DkAt (w.setCell ⟨d, 4, none⟩ (.int .i64 x)) G d m kvs { D with left := x } := h.set_ 4 _ _ rfl rfl
theorem DkAt.setOff (h : DkAt w G d m kvs D) (x : Bool) : DkAt (w.setCell ⟨d, 5, none⟩ (.bool x)) G d m kvs { D with off := x } := h.set_ 5 _ _ rfl rfl
end

end Go.Proofs.YtiomlnhfhmpejaaGreatDoor
