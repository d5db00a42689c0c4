/- A transaction as it lies in memory. -/
import Derived.Test.YtgnpmmhpeianpaaGreatDoorB08
import Derived.Test.YtgnpmmhpeianpaaGreatDoorB05
import Derived.Test.YtgnpmmhpeianpaaGreatDoorB07
namespace Go.Proofs.YtgnpmmhpeianpaaGreatDoor
open Go.RowKit

/-- a change that a transaction has noted. -/
structure Ch where
  key : List UInt8
  gone : Bool
  val : List UInt8
/-- a transaction. -/
structure Tx where
  seq : Int
  done : Bool
  writes : List Ch
  guards : List (List UInt8)
def findC : List Ch → List UInt8 → Option Ch
  | [], _ => none
  | c :: r, k => if c.key = k then some c else findC r k
def putC : List Ch → Ch → List Ch
  | [], c => [c]
  | a :: r, c => if a.key = c.key then c :: r else a :: putC r c

/-- a change's value in the map. -/
def ChV (w : World) (G : Nat → Prop) (v : Value) (c : Ch) : Prop :=
  ∃ A B ca cb, v = .agg #[.slice A c.key.length ca, .bool c.gone, .slice B c.val.length cb] ∧ Rd w A c.key.length (by8 c.key) ∧ Rd w B c.val.length (by8 c.val) ∧ (c.key.length ≤ ca ∧ ca ≤ 9223372036854775807) ∧ (c.val.length ≤ cb ∧ cb ≤ 9223372036854775807) ∧ (∀ b, blkOf A = some b → G b) ∧ ∀ b, blkOf B = some b → G b
def ChsAt (w : World) (G : Nat → Prop) : List (ByteArray × Value) → List Ch → Prop
  | [], [] => True
  | p :: r, c :: s => (p.1 = ⟨c.key.toArray⟩ ∧ ChV w G p.2 c) ∧ ChsAt w G r s
  | _, _ => False

section
variable {w w' : World} {G G' S : Nat → Prop}
theorem ChV.mod {v : Value} {c : Ch} (h : ChV w G v c) (hm : Mod S w w') (hS : ∀ k, G k → ¬ S k) (hG : ∀ k, G k → G' k) : ChV w' G' v c := by
  obtain ⟨A, B, ca, cb, h1, h2, h3, h4, h5, h6, h7⟩ := h
  exact ⟨A, B, ca, cb, h1, h2.mod hm fun _ b hb => hS b (h6 b hb), h3.mod hm fun _ b hb => hS b (h7 b hb), h4, h5, fun b hb => hG b (h6 b hb), fun b hb => hG b (h7 b hb)⟩
theorem ChsAt.mod (hm : Mod S w w') (hS : ∀ k, G k → ¬ S k) (hG : ∀ k, G k → G' k) : ∀ {kvs : List (ByteArray × Value)} {cs : List Ch}, ChsAt w G kvs cs → ChsAt w' G' kvs cs
  | [], [], _ => trivial
  | _ :: _, _ :: _, h => ⟨⟨h.1.1, h.1.2.mod hm hS hG⟩, ChsAt.mod hm hS hG h.2⟩
  | [], _ :: _, h => h.elim
  | _ :: _, [], h => h.elim
theorem key_str (a b : List UInt8) : ((⟨a.toArray⟩ : ByteArray) = ⟨b.toArray⟩) ↔ a = b := by
  constructor
  · intro h
    have := congrArg (fun s : ByteArray => s.data.toList) h
    simpa using this
  · rintro rfl; rfl
theorem ChsAt.none_ (k : List UInt8) : ∀ {kvs : List (ByteArray × Value)} {cs : List Ch}, ChsAt w G kvs cs → findC cs k = none → lookKV kvs ⟨k.toArray⟩ = none
  | [], [], _, _ => rfl
  | p :: r, c :: s, h, hf => by
    rw [findC] at hf
    split at hf
    · cases hf
    · rename_i hn
      rw [lookKV, if_neg (by rw [h.1.1, key_str]; exact hn)]
      exact ChsAt.none_ k h.2 hf
  | [], _ :: _, h, _ => h.elim
  | _ :: _, [], h, _ => h.elim
theorem ChsAt.some_ (k : List UInt8) {c : Ch} : ∀ {kvs : List (ByteArray × Value)} {cs : List Ch}, ChsAt w G kvs cs → findC cs k = some c → ∃ v, lookKV kvs ⟨k.toArray⟩ = some v ∧ ChV w G v c ∧ c.key = k
  | [], [], _, hf => by cases hf
  | p :: r, a :: s, h, hf => by
    rw [findC] at hf
    split at hf
    · rename_i he
      cases hf
      exact ⟨p.2, by rw [lookKV, if_pos (by rw [h.1.1, key_str]; exact he)], h.1.2, he⟩
    · rename_i hn
      obtain ⟨v, h1, h2⟩ := ChsAt.some_ k h.2 hf
      exact ⟨v, by rw [lookKV, if_neg (by rw [h.1.1, key_str]; exact hn)]; exact h1, h2⟩
  | [], _ :: _, h, _ => h.elim
  | _ :: _, [], h, _ => h.elim
theorem ChsAt.put {c : Ch} {v : Value} (hv : ChV w G v c) : ∀ {kvs : List (ByteArray × Value)} {cs : List Ch}, ChsAt w G kvs cs → ChsAt w G (putKV kvs ⟨c.key.toArray⟩ v) (putC cs c)
  | [], [], _ => ⟨⟨rfl, hv⟩, trivial⟩
  | p :: r, a :: s, h => by
    rw [putKV, putC]
    by_cases he : a.key = c.key
    · rw [if_pos he, if_pos (by rw [h.1.1, key_str]; exact he)]
      exact ⟨⟨rfl, hv⟩, h.2⟩
    · rw [if_neg he, if_neg (by rw [h.1.1, key_str]; exact he)]
      exact ⟨h.1, ChsAt.put hv h.2⟩
  | [], _ :: _, h => h.elim
  | _ :: _, [], h => h.elim
theorem ChsAt.len : ∀ {kvs : List (ByteArray × Value)} {cs : List Ch}, ChsAt w G kvs cs → kvs.length = cs.length
  | [], [], _ => rfl
  | _ :: _, _ :: _, h => by rw [List.length_cons, List.length_cons, ChsAt.len h.2]
  | [], _ :: _, h => h.elim
  | _ :: _, [], h => h.elim
end

def gdV (l : List (List UInt8)) : List (ByteArray × Value) := l.map fun k => (⟨k.toArray⟩, .int .i64 1)
def txCells (e wm gm : Nat) (T : Tx) : Array Value := #[.pointer (some ⟨e, 0, none⟩), .int .i64 T.seq, .bool T.done, .map (some wm), .map (some gm)]
/-- the parts of a transaction of the engine at block e. -/
structure TxAt (w : World) (G : Nat → Prop) (t e wm gm : Nat) (kvs : List (ByteArray × Value)) (T : Tx) : Prop where
  blk : Blk w t 252 (txCells e wm gm T)
  wmap : MapAt Value.string w wm kvs
  chs : ChsAt w G kvs T.writes
  gmap : MapAt Value.string w gm (gdV T.guards)
  tw : t ≠ wm
  tg : t ≠ gm
  wg : wm ≠ gm
  gl : ∀ k, G k → k ≠ t ∧ k ≠ wm ∧ k ≠ gm
def TxIs (w : World) (F : Nat → Prop) (t e : Nat) (T : Tx) : Prop :=
  ∃ G wm gm kvs, TxAt w G t e wm gm kvs T ∧ F t ∧ F wm ∧ F gm ∧ (∀ k, G k → F k) ∧ ¬ F powG ∧ ∀ k, F k → k < w.heap.size

section
variable {w w' : World} {F G S : Nat → Prop} {t e wm gm : Nat} {kvs : List (ByteArray × Value)} {T : Tx}
theorem TxAt.mod (h : TxAt w G t e wm gm kvs T) (hm : Mod S w w') (ht : ¬ S t) (hw : ¬ S wm) (hg : ¬ S gm) (hG : ∀ k, G k → ¬ S k) : TxAt w' G t e wm gm kvs T :=
  ⟨h.blk.mod hm ht, h.wmap.mod hm hw, h.chs.mod hm hG fun _ h => h, h.gmap.mod hm hg, h.tw, h.tg, h.wg, h.gl⟩
theorem TxAt.mod0 (h : TxAt w G t e wm gm kvs T) (hm : Mod Non w w') : TxAt w' G t e wm gm kvs T := h.mod hm (fun h => h) (fun h => h) (fun h => h) fun _ _ h => h
theorem TxIs.mod (h : TxIs w F t e T) (hm : Mod S w w') (hS : ∀ k, F k → ¬ S k) : TxIs w' F t e T := by
  obtain ⟨G, wm, gm, kvs, h1, h2, h3, h4, h5, h6, h7⟩ := h
  exact ⟨G, wm, gm, kvs, h1.mod hm (hS _ h2) (hS _ h3) (hS _ h4) (fun k hk => hS k (h5 k hk)), h2, h3, h4, h5, h6, fun k hk => Nat.lt_of_lt_of_le (h7 k hk) hm.size⟩
theorem TxIs.mod0 (h : TxIs w F t e T) (hm : Mod Non w w') : TxIs w' F t e T := h.mod hm fun _ _ h => h
theorem TxIs.lt (h : TxIs w F t e T) : ∀ k, F k → k < w.heap.size := by obtain ⟨_, _, _, _, _, _, _, _, _, _, h7⟩ := h; exact h7
end

end Go.Proofs.YtgnpmmhpeianpaaGreatDoor

/- An engine as it lies in memory. -/
namespace Go.Proofs.YtgnpmmhpeianpaaGreatDoor
open Go.RowKit

/-- an engine without tables. -/
structure Eg where
  D : Dk
  mem : List Tw
  seq : Int
  log : Int
  pins : List (Int × Int)
def pinV (l : List (Int × Int)) : List (Int × Value) := l.map fun p => (p.1, .int .i64 p.2)
def egCells (d l tm pm : Nat) (E : Eg) : Array Value := #[.pointer (some ⟨d, 0, none⟩), .int .i64 0, .int .i64 0, .int .i64 0, .int .i64 0, .slice none 0 0, .map (some tm), .pointer (some ⟨l, 0, none⟩), .int .i64 E.seq, .int .i64 E.log, .map (some pm)]

/-- The parts of an engine: its block e, its disk, its list, its two maps. -/
structure EgAt (w : World) (e d l tm pm : Nat) (Fd Fl : Nat → Prop) (E : Eg) : Prop where
  blk : Blk w e 133 (egCells d l tm pm E)
  disk : DiskIs w Fd d E.D
  list : LsIs w Fl l E.mem
  tmap : MapAt (Value.int .i64) w tm []
  pmap : MapAt (Value.int .i64) w pm (pinV E.pins)
  et : e ≠ tm
  ep : e ≠ pm
  tp : tm ≠ pm
  fd : ∀ k, Fd k → k ≠ e ∧ k ≠ tm ∧ k ≠ pm ∧ ¬ Fl k
  fl : ∀ k, Fl k → k ≠ e ∧ k ≠ tm ∧ k ≠ pm
  pow : ¬ Fl powG ∧ powG ≠ e ∧ powG ≠ tm ∧ powG ≠ pm
def EgIs (w : World) (F : Nat → Prop) (e : Nat) (E : Eg) : Prop :=
  ∃ d l tm pm Fd Fl, EgAt w e d l tm pm Fd Fl E ∧ ∀ k, F k ↔ (k = e ∨ k = tm ∨ k = pm ∨ Fd k ∨ Fl k)

section
variable {w w' : World} {F S Fd Fl : Nat → Prop} {e d l tm pm : Nat} {E : Eg}
theorem LsIs.lt {xs : List Tw} (h : LsIs w F l xs) : ∀ k, F k → k < w.heap.size := by obtain ⟨_, _, _, _, _, _, _, h6⟩ := h; exact h6
theorem DiskIs.flt {D : Dk} (h : DiskIs w F d D) : ∀ k, F k → k < w.heap.size := by obtain ⟨_, _, _, _, _, _, _, _, h6⟩ := h; exact h6
theorem DiskIs.pow {D : Dk} (h : DiskIs w F d D) : ¬ F powG := by obtain ⟨_, _, _, _, _, _, _, h5, _⟩ := h; exact h5
theorem EgAt.mod (h : EgAt w e d l tm pm Fd Fl E) (hm : Mod S w w') (he : ¬ S e) (ht : ¬ S tm) (hp : ¬ S pm) (hd : ∀ k, Fd k → ¬ S k) (hl : ∀ k, Fl k → ¬ S k) (hpw : ¬ S powG) : EgAt w' e d l tm pm Fd Fl E :=
  ⟨h.blk.mod hm he, h.disk.mod hm hd hpw, h.list.mod hm hl, h.tmap.mod hm ht, h.pmap.mod hm hp, h.et, h.ep, h.tp, h.fd, h.fl, h.pow⟩
theorem EgAt.mod0 (h : EgAt w e d l tm pm Fd Fl E) (hm : Mod Non w w') : EgAt w' e d l tm pm Fd Fl E := h.mod hm (fun h => h) (fun h => h) (fun h => h) (fun _ _ h => h) (fun _ _ h => h) fun h => h
theorem EgIs.mod (h : EgIs w F e E) (hm : Mod S w w') (hS : ∀ k, F k → ¬ S k) (hpw : ¬ S powG) : EgIs w' F e E := by
  obtain ⟨d, l, tm, pm, Fd, Fl, h1, h2⟩ := h
  exact ⟨d, l, tm, pm, Fd, Fl, h1.mod hm (hS _ ((h2 _).2 (.inl rfl))) (hS _ ((h2 _).2 (.inr (.inl rfl)))) (hS _ ((h2 _).2 (.inr (.inr (.inl rfl))))) (fun k hk => hS k ((h2 k).2 (.inr (.inr (.inr (.inl hk)))))) (fun k hk => hS k ((h2 k).2 (.inr (.inr (.inr (.inr hk)))))) hpw, h2⟩
theorem EgIs.mod0 (h : EgIs w F e E) (hm : Mod Non w w') : EgIs w' F e E := h.mod hm (fun _ _ h => h) fun h => h
theorem EgIs.lt (h : EgIs w F e E) : ∀ k, F k → k < w.heap.size := by
  obtain ⟨d, l, tm, pm, Fd, Fl, h1, h2⟩ := h
  intro k hk
  rcases (h2 k).1 hk with rfl | rfl | rfl | hk | hk
  · exact h1.blk.lt
  · exact h1.tmap.lt
  · exact h1.pmap.lt
  · exact h1.disk.flt k hk
  · exact h1.list.lt k hk
theorem EgIs.pow (h : EgIs w F e E) : ¬ F powG := by
  obtain ⟨d, l, tm, pm, Fd, Fl, h1, h2⟩ := h
  intro hk
  rcases (h2 powG).1 hk with hk | hk | hk | hk | hk
  · exact h1.pow.2.1 hk
  · exact h1.pow.2.2.1 hk
  · exact h1.pow.2.2.2 hk
  · exact h1.disk.pow hk
  · exact h1.pow.1 hk
theorem EgIs.lay (h : EgIs w F e E) : Lay w := by obtain ⟨d, l, tm, pm, Fd, Fl, h1, h2⟩ := h; exact h1.disk.lay
end

end Go.Proofs.YtgnpmmhpeianpaaGreatDoor
