/- Words for memory: what a call may turn (a set of blocks), slices of one-cell elements that read as lists. Plain lemmas, no program. -/
import Derived.WalkKit
import Derived.WalkSpells
import Derived.WalkLawsBesides
import Derived.Deep.Draws
import Derived.Lib.Hide
namespace Go.Proofs.YtiomlnhfhmpejaaGreatDoor
open Go.RowKit

/-- w' is w but for the blocks of S and for new ones. -/
structure Mod (S : Nat → Prop) (w w' : World) : Prop where
  os : w'.os = w.os
  tape : w'.tape = w.tape
  output : w'.output = w.output
  size : w.heap.size ≤ w'.heap.size
  block : ∀ k, k < w.heap.size → ¬ S k → w'.heap[k]? = w.heap[k]?

abbrev Non : Nat → Prop := fun _ => False

section
variable {S T : Nat → Prop} {a b c w w' : World}
theorem Mod.refl (S : Nat → Prop) (w : World) : Mod S w w := ⟨rfl, rfl, rfl, Nat.le_refl _, fun _ _ _ => rfl⟩
theorem Mod.trans (h : Mod S a b) (k : Mod T b c) (hT : ∀ i, T i → S i ∨ a.heap.size ≤ i) : Mod S a c :=
  ⟨k.os.trans h.os, k.tape.trans h.tape, k.output.trans h.output, Nat.le_trans h.size k.size, fun i hi hn =>
    (k.block i (Nat.lt_of_lt_of_le hi h.size) (fun ht => by rcases hT i ht with h1 | h1; exact hn h1; omega)).trans (h.block i hi hn)⟩
theorem Mod.mono (h : Mod S a b) (hS : ∀ i, S i → T i) : Mod T a b := ⟨h.os, h.tape, h.output, h.size, fun i hi hn => h.block i hi fun hs => hn (hS i hs)⟩
theorem Mod.non (h : Mod Non a b) : Mod S a b := h.mono fun _ h => h.elim
theorem Mod.trans0 (h : Mod S a b) (k : Mod Non b c) : Mod S a c := h.trans k fun _ h => h.elim
theorem Mod.drew (h : Mod S a b) : Mod S a b.drew := ⟨h.os, h.tape, h.output, h.size, h.block⟩
theorem Mod.drewN (h : Mod S a b) (n : Nat) : Mod S a (b.drewN n) := ⟨h.os, h.tape, h.output, h.size, h.block⟩
theorem Mod.alloc (h : Mod S a b) (o : Obj) : Mod S a (b.alloc o) :=
  ⟨h.os, h.tape, h.output, Nat.le_trans h.size (by simp), fun i hi hn => (Below.heap_alloc b o i (Nat.lt_of_lt_of_le hi h.size)).trans (h.block i hi hn)⟩
theorem Mod.setCell (h : Mod S a b) {p : Addr} (hp : S p.block ∨ a.heap.size ≤ p.block) (u : Value) : Mod S a (b.setCell p u) :=
  ⟨h.os, h.tape, h.output, by simpa [World.setCell] using h.size, fun i hi hn => (Below.heap_setCell b p u i (by
    rintro rfl
    rcases hp with hp | hp
    · exact hn hp
    · omega)).trans (h.block i hi hn)⟩
theorem Mod.set1 {g : Nat} (h : Mod (fun k => k = g) a b) (i : Nat) (u : Value) : Mod (fun k => k = g) a (b.setCell ⟨g, i, none⟩ u) := h.setCell (p := ⟨g, i, none⟩) (.inl rfl) u
theorem Mod.of_below (h : Below w.heap.size w w') : Mod S w w' := ⟨h.os, h.tape, h.output, h.size, fun i hi _ => h.block i hi⟩
theorem Mod.below (h : Mod S w w') {B : Nat} (hS : ∀ i, S i → B ≤ i) (hB : B ≤ w.heap.size) : Below B w w' :=
  ⟨h.os, h.tape, h.output, h.size, fun i hi => h.block i (by omega) fun hs => by have := hS i hs; omega⟩
theorem Mod.below0 (h : Mod Non w w') : Below w.heap.size w w' := h.below (fun _ h => h.elim) (Nat.le_refl _)
theorem Mod.of_grown {row : Option Nat} (h : w.grownBy w' row) (hr : ∀ k, row = some k → S k) : Mod S w w' :=
  ⟨h.os, h.tape, h.output, h.size, fun i hi hn => h.block i hi fun e => hn (hr i e.symm)⟩
theorem Mod.grown (h : Mod S a w) {row : Option Nat} (g : w.grownBy w' row) (hr : ∀ k, row = some k → S k ∨ a.heap.size ≤ k) : Mod S a w' :=
  h.trans (Mod.of_grown (S := fun k => row = some k) g fun _ h => h) hr
theorem Mod.cell (h : Mod S w w') {p : Addr} {v : Value} (hc : w.cell? p = some v) (hp : ¬ S p.block) : w'.cell? p = some v :=
  (World.cell?_of_block (h.block p.block (World.block_lt_of_cell? w p hc) hp)).trans hc
theorem Mod.frozen (h : Mod S w w') {p : Addr} (hl : p.block < w.heap.size) (hp : ¬ S p.block) : w'.frozen? p = w.frozen? p :=
  World.frozen?_of_block (h.block p.block hl hp)
end

/-- A block that is known whole. -/
def Blk (w : World) (g : Nat) (t : TypeId) (cs : Array Value) : Prop := w.heap[g]? = some (.cells cs t (0, 0))
section
variable {S : Nat → Prop} {w w' : World} {g : Nat} {t : TypeId} {cs : Array Value}
theorem Blk.lt (h : Blk w g t cs) : g < w.heap.size := by
  rcases Nat.lt_or_ge g w.heap.size with hlt | hge
  · exact hlt
  · unfold Blk at h; rw [Array.getElem?_eq_none hge] at h; cases h
theorem Blk.cell (h : Blk w g t cs) (i : Nat) : w.cell? ⟨g, i, none⟩ = cs[i]? := cell_of_row w g i cs t (0, 0) h
theorem Blk.frozen (h : Blk w g t cs) (i : Nat) : w.frozen? ⟨g, i, none⟩ = false := by
  unfold Blk at h
  simp [World.frozen?, h]
theorem Blk.new (w : World) (t : TypeId) (cs : Array Value) : Blk (w.alloc (.cells cs t)) w.heap.size t cs := heap_alloc_new w _
theorem Blk.drew (h : Blk w g t cs) : Blk w.drew g t cs := h
theorem Blk.drewN (h : Blk w g t cs) (n : Nat) : Blk (w.drewN n) g t cs := h
theorem Blk.alloc (h : Blk w g t cs) (o : Obj) : Blk (w.alloc o) g t cs := (Below.heap_alloc w o g h.lt).trans h
theorem Blk.set_ (h : Blk w g t cs) (i : Nat) (u : Value) : Blk (w.setCell ⟨g, i, none⟩ u) g t (cs.setIfInBounds i u) := by
  unfold Blk at h ⊢
  simp [World.setCell, Array.getElem?_modify, h]
theorem Blk.far (h : Blk w g t cs) {p : Addr} (hp : g ≠ p.block) (u : Value) : Blk (w.setCell p u) g t cs := (Below.heap_setCell w p u g hp).trans h
theorem Blk.mod (h : Blk w g t cs) (hm : Mod S w w') (hg : ¬ S g) : Blk w' g t cs := (hm.block g h.lt hg).trans h
end

/-- The cells behind an address of a slice: n elements of one cell each, which are vs. -/
def Rd (w : World) (A : Option Addr) (n : Nat) (vs : List Value) : Prop :=
  vs.length = n ∧ (0 < n → ∃ b o, A = some ⟨b, o, none⟩ ∧ ∀ j u, vs[j]? = some u → w.cell? ⟨b, o + j, none⟩ = some u)

/-- The block of a slice's cells. -/
def blkOf (A : Option Addr) : Option Nat := A.map (·.block)

/-- S leaves the block of A alone. -/
def Off (S : Nat → Prop) (A : Option Addr) : Prop := ∀ b, blkOf A = some b → ¬ S b

theorem Off.non (A : Option Addr) : Off Non A := fun _ _ h => h
theorem Off.mono {S T : Nat → Prop} {A : Option Addr} (h : Off S A) (hT : ∀ k, T k → S k) : Off T A := fun b hb ht => h b hb (hT b ht)

section
variable {S : Nat → Prop} {w w' : World} {A : Option Addr} {n : Nat} {vs : List Value}
theorem Rd.nil (w : World) (A : Option Addr) : Rd w A 0 [] := ⟨rfl, fun h => absurd h (by omega)⟩
theorem Rd.lt (h : Rd w A n vs) (hn : 0 < n) : ∃ b, blkOf A = some b ∧ b < w.heap.size := by
  obtain ⟨b, o, rfl, hc⟩ := h.2 hn
  have hl : 0 < vs.length := by rw [h.1]; exact hn
  exact ⟨b, rfl, World.block_lt_of_cell? w _ (hc 0 vs[0] (List.getElem?_eq_getElem hl))⟩
theorem Rd.keep (h : Rd w A n vs) (hk : ∀ b, blkOf A = some b → b < w.heap.size → w'.heap[b]? = w.heap[b]?) : Rd w' A n vs :=
  ⟨h.1, fun hn => by
    obtain ⟨b, o, rfl, hc⟩ := h.2 hn
    exact ⟨b, o, rfl, fun j u hu => (World.cell?_of_block (hk b rfl (World.block_lt_of_cell? w _ (hc j u hu)))).trans (hc j u hu)⟩⟩
theorem Rd.mod (h : Rd w A n vs) (hm : Mod S w w') (ho : 0 < n → Off S A) : Rd w' A n vs :=
  ⟨h.1, fun hn => by
    obtain ⟨b, o, rfl, hc⟩ := h.2 hn
    exact ⟨b, o, rfl, fun j u hu => hm.cell (p := ⟨b, o + j, none⟩) (hc j u hu) (ho hn b rfl)⟩⟩
theorem Rd.mod0 (h : Rd w A n vs) (hm : Mod Non w w') : Rd w' A n vs := h.mod hm fun _ => Off.non A
theorem Rd.drew (h : Rd w A n vs) : Rd w.drew A n vs := h
theorem Rd.drewN (h : Rd w A n vs) (k : Nat) : Rd (w.drewN k) A n vs := h
theorem Rd.alloc (h : Rd w A n vs) (o : Obj) : Rd (w.alloc o) A n vs := h.mod0 ((Mod.refl Non w).alloc o)
theorem Rd.at_ (h : Rd w A n vs) {k : Nat} (hk : k < n) : ∃ b o, A = some ⟨b, o, none⟩ ∧ ∃ u, vs[k]? = some u ∧ w.cell? ⟨b, o + k, none⟩ = some u := by
  obtain ⟨b, o, rfl, hc⟩ := h.2 (by omega)
  have hl : k < vs.length := by rw [h.1]; exact hk
  exact ⟨b, o, rfl, vs[k], List.getElem?_eq_getElem hl, hc k _ (List.getElem?_eq_getElem hl)⟩
theorem Rd.take (h : Rd w A n vs) {k : Nat} (hk : k ≤ n) : Rd w A k (vs.take k) := by
  refine ⟨by rw [List.length_take, h.1]; omega, fun hn => ?_⟩
  obtain ⟨b, o, rfl, hc⟩ := h.2 (by omega)
  refine ⟨b, o, rfl, fun j u hu => hc j u ?_⟩
  rw [List.getElem?_take] at hu
  split at hu
  · exact hu
  · cases hu
/-- A cut 's[k:]': at k = cap the model keeps the address. -/
theorem Rd.cut (h : Rd w A n vs) {k cap : Nat} (hk : k ≤ n) (hc : n ≤ cap) : Rd w (if cap = k then A else A.map (·.add k)) (n - k) (vs.drop k) := by
  refine ⟨by rw [List.length_drop, h.1], fun hn => ?_⟩
  obtain ⟨b, o, rfl, hcell⟩ := h.2 (by omega)
  rw [if_neg (by omega)]
  refine ⟨b, o + k, ?_, fun j u hu => ?_⟩
  · simp only [Option.map_some, Addr.add]
    split
    · rename_i e; simp_all
    · simp
  · rw [Nat.add_assoc]
    exact hcell (k + j) u (by rw [← hu, List.getElem?_drop])
theorem Off.cut {k cap : Nat} (h : Off S A) : Off S (if cap = k then A else A.map (·.add k)) := by
  split
  · exact h
  · cases A with
    | none => exact h
    | some a =>
      intro b hb
      refine h b ?_
      simp only [blkOf, Option.map_some, Addr.add] at hb ⊢
      split at hb <;> exact hb
theorem Rd.of_own {base : Nat} {e : TypeId} {c : Nat} (h : w.ownsRow base e 1 (.slice A n c) n vs) : Rd w A n vs := by
  obtain ⟨hl, hr⟩ := h
  refine ⟨by omega, fun hn => ?_⟩
  rcases hr with ⟨hv, h0⟩ | ⟨g, cap, cur, hv, hg, hh, hnc, hcm, hsz, ht⟩
  · omega
  · injection hv with hA _ _
    subst hA
    refine ⟨g, 0, rfl, fun j u hu => ?_⟩
    rw [Nat.zero_add, cell_of_row w g j cur e (0, 0) hh]
    rw [← ht, List.getElem?_take] at hu
    split at hu
    · simpa using hu
    · cases hu
end

/-- Readable, and off the blocks of S. -/
def RdO (w : World) (S : Nat → Prop) (A : Option Addr) (n : Nat) (vs : List Value) : Prop := Rd w A n vs ∧ (0 < n → Off S A)
theorem RdO.next {F F' : Nat → Prop} {w w' : World} {A : Option Addr} {n : Nat} {vs : List Value} (h : RdO w F A n vs) (hm : Mod F w w') (hF : ∀ k, F' k → F k ∨ w.heap.size ≤ k) : RdO w' F' A n vs :=
  ⟨h.1.mod hm h.2, fun hn b hb hf => by
    obtain ⟨b', hb', hl⟩ := h.1.lt hn
    rw [hb] at hb'
    cases hb'
    rcases hF b hf with h1 | h1
    · exact h.2 hn b hb h1
    · omega⟩
theorem RdO.mod0 {F : Nat → Prop} {w w' : World} {A : Option Addr} {n : Nat} {vs : List Value} (h : RdO w F A n vs) (hm : Mod Non w w') : RdO w' F A n vs := ⟨h.1.mod0 hm, h.2⟩
theorem RdO.drew {F : Nat → Prop} {w : World} {A : Option Addr} {n : Nat} {vs : List Value} (h : RdO w F A n vs) : RdO w.drew F A n vs := h
theorem RdO.drewN {F : Nat → Prop} {w : World} {A : Option Addr} {n : Nat} {vs : List Value} (h : RdO w F A n vs) (k : Nat) : RdO (w.drewN k) F A n vs := h
theorem RdO.alloc {F : Nat → Prop} {w : World} {A : Option Addr} {n : Nat} {vs : List Value} (h : RdO w F A n vs) (o : Obj) : RdO (w.alloc o) F A n vs := ⟨h.1.alloc o, h.2⟩
theorem RdO.nil (w : World) (F : Nat → Prop) (A : Option Addr) : RdO w F A 0 [] := ⟨Rd.nil w A, fun h => absurd h (by omega)⟩

/-- What is owned from base on lies from base on. -/
theorem own_base {w : World} {base : Nat} {e : TypeId} {s n c : Nat} {A : Option Addr} {vs : List Value} (h : w.ownsRow base e s (.slice A n c) n vs) : ∀ b, blkOf A = some b → base ≤ b := by
  intro b hb
  have := (h.lt b (by cases A <;> simp_all [blkOf, Value.ownBlock])).1
  exact this
theorem own_slice {w : World} {base : Nat} {e : TypeId} {s n : Nat} {v : Value} {vs : List Value} (h : w.ownsRow base e s v n vs) : ∃ A c, v = .slice A n c ∧ n ≤ c ∧ c ≤ maxLen := by
  obtain ⟨hl, ⟨rfl, rfl⟩ | ⟨g, cap, cur, rfl, _, _, h1, h2, _⟩⟩ := h
  · exact ⟨none, 0, rfl, Nat.le_refl _, by simp [maxLen]⟩
  · exact ⟨_, cap, rfl, h1, h2⟩
theorem own_mod {S : Nat → Prop} {w w' : World} {base : Nat} {e : TypeId} {s n : Nat} {v : Value} {vs : List Value} (h : w.ownsRow base e s v n vs) (hm : Mod S w w') (ho : ∀ b, v.ownBlock = some b → ¬ S b) : w'.ownsRow base e s v n vs := by
  refine ⟨h.1, ?_⟩
  rcases h.2 with hn | ⟨g, cap, cur, rfl, hb, hgg, rest⟩
  · exact .inl hn
  · exact .inr ⟨g, cap, cur, rfl, hb, (hm.block g (Array.getElem?_eq_some_iff.1 hgg).1 (ho g rfl)).trans hgg, rest⟩

theorem own_mono {w : World} {base base' : Nat} {e : TypeId} {s n : Nat} {v : Value} {vs : List Value} (h : w.ownsRow base e s v n vs) (hb : base' ≤ base) : w.ownsRow base' e s v n vs := by
  refine ⟨h.1, ?_⟩
  rcases h.2 with hn | ⟨g, cap, cur, hv, hg, rest⟩
  · exact .inl hn
  · exact .inr ⟨g, cap, cur, hv, Nat.le_trans hb hg, rest⟩

/-- Bytes as cells. -/
def b8 (c : UInt8) : Value := .int .u8 (c.toNat : Int)
def by8 (l : List UInt8) : List Value := l.map b8
@[simp] theorem by8_length (l : List UInt8) : (by8 l).length = l.length := by simp [by8]
theorem by8_append (l k : List UInt8) : by8 (l ++ k) = by8 l ++ by8 k := by simp [by8]
theorem by8_get (l : List UInt8) (j : Nat) : (by8 l)[j]? = l[j]?.map b8 := by simp [by8]
theorem by8_take (l : List UInt8) (k : Nat) : by8 (l.take k) = (by8 l).take k := by simp [by8]
theorem by8_drop (l : List UInt8) (k : Nat) : by8 (l.drop k) = (by8 l).drop k := by simp [by8]
theorem by8_one (l : List UInt8) : ∀ u ∈ by8 l, u.oneCell' = true := by
  intro u hu
  simp only [by8, List.mem_map] at hu
  obtain ⟨c, _, rfl⟩ := hu
  rfl

end Go.Proofs.YtiomlnhfhmpejaaGreatDoor
