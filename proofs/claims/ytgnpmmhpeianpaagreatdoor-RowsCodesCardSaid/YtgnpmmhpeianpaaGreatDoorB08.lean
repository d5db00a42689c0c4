/- Maps with simple keys that read as lists of pairs: looked up, stored into, deleted from. No program. -/
import Derived.Test.YtgnpmmhpeianpaaGreatDoorB01
import Derived.MapKept
import Derived.Maps.OwnSet
import Derived.Deep.RegionLaw
import Derived.Test.YtgnpmmhpeianpaaGreatDoorB05
namespace Go.Proofs.YtgnpmmhpeianpaaGreatDoor
open Go.RowKit Go.MapKept

section
variable {κ : Type}

section
variable [DecidableEq κ]
def lookKV : List (κ × Value) → κ → Option Value
  | [], _ => none
  | p :: r, k => if p.1 = k then some p.2 else lookKV r k
def putKV : List (κ × Value) → κ → Value → List (κ × Value)
  | [], k, v => [(k, v)]
  | p :: r, k, v => if p.1 = k then (k, v) :: r else p :: putKV r k v
def delKV : List (κ × Value) → κ → List (κ × Value)
  | [], _ => []
  | p :: r, k => if p.1 = k then r else p :: delKV r k
end

/-- A way to lay keys: one to one, of one simple kind. -/
structure KeyEnc (d : TypeDesc) (enc : κ → Value) : Prop where
  inj : ∀ a b, enc a = enc b → a = b
  is : ∀ a, IsKey d (enc a)

/-- Block m is a map that holds just these pairs. -/
def MapAt (enc : κ → Value) (w : World) (m : Nat) (kvs : List (κ × Value)) : Prop :=
  ∃ es clock, w.heap[m]? = some (.map es clock) ∧ Stamped es clock ∧ es.toList.map (fun e => (e.key, e.val)) = kvs.map (fun p => (enc p.1, p.2))

variable {enc : κ → Value} {d : TypeDesc} {w w' : World} {m : Nat} {kvs : List (κ × Value)}

theorem MapAt.lt (h : MapAt enc w m kvs) : m < w.heap.size := by
  obtain ⟨es, clock, hb, _⟩ := h
  exact (Array.getElem?_eq_some_iff.1 hb).1
theorem MapAt.keep (h : MapAt enc w m kvs) (hm : w'.heap[m]? = w.heap[m]?) : MapAt enc w' m kvs := by
  obtain ⟨es, clock, hb, h1, h2⟩ := h
  exact ⟨es, clock, hm.trans hb, h1, h2⟩
theorem MapAt.mod {S : Nat → Prop} (h : MapAt enc w m kvs) (hm : Mod S w w') (hS : ¬ S m) : MapAt enc w' m kvs := h.keep (hm.block m h.lt hS)
theorem MapAt.mod0' (h : MapAt enc w m kvs) (hm : Mod Non w w') : MapAt enc w' m kvs := h.mod hm fun h => h
theorem MapAt.new (enc : κ → Value) (w : World) : MapAt enc (w.alloc (.map #[] 0)) w.heap.size [] := ⟨#[], 0, heap_alloc_new w _, stamped_empty 0, rfl⟩

variable [DecidableEq κ]
theorem lookKV_none {k : κ} : ∀ {l : List (κ × Value)}, (∀ p ∈ l, p.1 ≠ k) → lookKV l k = none
  | [], _ => rfl
  | p :: r, h => by rw [lookKV, if_neg (h p (.head _)), lookKV_none fun q hq => h q (.tail _ hq)]
theorem putKV_none {k : κ} {v : Value} : ∀ {l : List (κ × Value)}, (∀ p ∈ l, p.1 ≠ k) → putKV l k v = l ++ [(k, v)]
  | [], _ => rfl
  | p :: r, h => by rw [putKV, if_neg (h p (.head _)), putKV_none fun q hq => h q (.tail _ hq)]; rfl
theorem delKV_none {k : κ} : ∀ {l : List (κ × Value)}, (∀ p ∈ l, p.1 ≠ k) → delKV l k = l
  | [], _ => rfl
  | p :: r, h => by rw [delKV, if_neg (h p (.head _)), delKV_none fun q hq => h q (.tail _ hq)]
omit [DecidableEq κ] in
theorem map_erase {α β : Type} (f : α → β) : ∀ (l : List α) (j : Nat), (l.eraseIdx j).map f = (l.map f).eraseIdx j
  | [], _ => by simp
  | _ :: _, 0 => rfl
  | _ :: r, j + 1 => by simp [map_erase f r j]
/-- where the first pair with the key k stands. -/
theorem at_first {k : κ} : ∀ {l : List (κ × Value)} {j : Nat} {p : κ × Value}, l[j]? = some p → p.1 = k → (∀ i q, i < j → l[i]? = some q → q.1 ≠ k) →
    lookKV l k = some p.2 ∧ (∀ v, putKV l k v = l.set j (k, v)) ∧ delKV l k = l.eraseIdx j
  | [], j, p, h, _, _ => by simp at h
  | q :: r, 0, p, h, hk, _ => by
    simp only [List.getElem?_cons_zero, Option.some.injEq] at h
    subst h
    exact ⟨by rw [lookKV, if_pos hk], fun v => by rw [putKV, if_pos hk]; rfl, by rw [delKV, if_pos hk]; rfl⟩
  | q :: r, j + 1, p, h, hk, hf => by
    have hq : q.1 ≠ k := hf 0 q (by omega) rfl
    obtain ⟨h1, h2, h3⟩ := at_first (l := r) (j := j) (by simpa using h) hk fun i q' hi hq' => hf (i + 1) q' (by omega) (by simpa using hq')
    exact ⟨by rw [lookKV, if_neg hq, h1], fun v => by rw [putKV, if_neg hq, h2]; rfl, by rw [delKV, if_neg hq, h3]; rfl⟩

omit [DecidableEq κ] in
/-- What the model finds at a key. -/
theorem MapAt.find (K : KeyEnc d enc) (h : MapAt enc w m kvs) (k : κ) : ∃ es clock, w.heap[m]? = some (.map es clock) ∧ Stamped es clock ∧ es.toList.map (fun e => (e.key, e.val)) = kvs.map (fun p => (enc p.1, p.2)) ∧ (∀ x ∈ es.toList, IsKey d x.key) ∧
    ((Instr.findNow d (enc k) es.toList 0 = some none ∧ (∀ x ∈ es.toList, x.key ≠ enc k) ∧ ∀ p ∈ kvs, p.1 ≠ k) ∨
     ∃ j e p, Instr.findNow d (enc k) es.toList 0 = some (some (j, e.val)) ∧ es[j]? = some e ∧ e.key = enc k ∧ kvs[j]? = some p ∧ p.1 = k ∧ p.2 = e.val ∧ ∀ i q, i < j → kvs[i]? = some q → q.1 ≠ k) := by
  obtain ⟨es, clock, hb, hs, he⟩ := h
  have hks : ∀ x ∈ es.toList, IsKey d x.key := fun x hx => by
    have : (x.key, x.val) ∈ es.toList.map (fun e => (e.key, e.val)) := List.mem_map.2 ⟨x, hx, rfl⟩
    rw [he] at this
    obtain ⟨p, _, hp⟩ := List.mem_map.1 this
    rw [show x.key = enc p.1 from (congrArg Prod.fst hp).symm]
    exact K.is _
  refine ⟨es, clock, hb, hs, he, hks, ?_⟩
  rcases findNow_spec (K.is k) es.toList 0 hks with ⟨h1, h2⟩ | ⟨j, e, h1, h2, h3⟩
  · refine .inl ⟨h1, h2, fun p hp e => ?_⟩
    have : (enc p.1, p.2) ∈ kvs.map (fun p => (enc p.1, p.2)) := List.mem_map.2 ⟨p, hp, rfl⟩
    rw [← he] at this
    obtain ⟨x, hx, hx'⟩ := List.mem_map.1 this
    exact h2 x hx ((congrArg Prod.fst hx').trans (by simp [e]))
  · have hj : es[j]? = some e := by simpa using h2
    have hm := congrArg (fun l => l[j]?) he
    simp only [List.getElem?_map, h2, Option.map_some] at hm
    cases hp : kvs[j]? with
    | none => rw [hp] at hm; cases hm
    | some p =>
      rw [hp] at hm
      simp only [Option.map_some, Option.some.injEq, Prod.mk.injEq] at hm
      refine .inr ⟨j, e, p, by simpa using h1, hj, h3, hp, K.inj _ _ (hm.1.symm.trans h3), hm.2.symm, fun i q hi hq e' => ?_⟩
      have hm' := congrArg (fun l => l[i]?) he
      simp only [List.getElem?_map, hq, Option.map_some] at hm'
      cases hx : es.toList[i]? with
      | none => rw [hx] at hm'; cases hm'
      | some x =>
        rw [hx] at hm'
        simp only [Option.map_some, Option.some.injEq, Prod.mk.injEq] at hm'
        have hnd := hs.2.2
        have h4 : (es.toList.map (·.key))[i]? = some (enc k) := by simp [hx, hm'.1, e']
        have h5 : (es.toList.map (·.key))[j]? = some (enc k) := by simp [h2, h3]
        have hlt : i < (es.toList.map (·.key)).length := (List.getElem?_eq_some_iff.1 h4).1
        have := (List.getElem?_inj hlt hnd).1 (h4.trans h5.symm)
        omega

variable {P : Program} {t kt et : TypeId}

theorem MapAt.run_look (K : KeyEnc d enc) (h : MapAt enc w m kvs) (ht : P.underlying t = some (.map kt et)) (hk : P.underlying kt = some d) {z : Value} (hz : (zeroValue et).run P w = .ok z w) (k : κ) (c : Bool) :
    (Instr.lookup t (.map (some m)) (enc k) c).run P w = .ok (if c then .tuple #[(lookKV kvs k).getD z, .bool (lookKV kvs k).isSome] else (lookKV kvs k).getD z) w := by
  obtain ⟨es, clock, hb, hs, he, hks, h1 | ⟨j, e, p, h1, hj, h3, hp, hpk, hpv, hf⟩⟩ := h.find K k
  · obtain ⟨h1, h2, h3⟩ := h1
    rw [lookKV_none h3]
    simp [Instr.lookup, run_underlying ht, MapKept.run_getObj_map hb, MapKept.run_checkKey hk (K.is k), MapKept.run_findKey hk h1, hz, Result.andThen]
  · rw [(at_first hp hpk hf).1, hpv]
    simp [Instr.lookup, run_underlying ht, MapKept.run_getObj_map hb, MapKept.run_checkKey hk (K.is k), MapKept.run_findKey hk h1, Result.andThen]

theorem MapAt.run_put (K : KeyEnc d enc) (h : MapAt enc w m kvs) (ht : P.underlying t = some (.map kt et)) (hk : P.underlying kt = some d) (k : κ) (v : Value) :
    ∃ w', (Instr.mapUpdate t (.map (some m)) (enc k) v).run P w = .ok () w' ∧ MapAt enc w' m (putKV kvs k v) ∧ Mod (fun i => i = m) w w' := by
  obtain ⟨es, clock, hb, hs, he, hks, h1 | ⟨j, e, p, h1, hj, h3, hp, hpk, hpv, hf⟩⟩ := h.find K k
  · obtain ⟨h1, h2, h3⟩ := h1
    refine ⟨{ w with heap := w.heap.setIfInBounds m (.map (es.push { key := enc k, val := v, born := clock }) (clock + 1)) }, by simp [Instr.mapUpdate, run_underlying ht, MapKept.run_getObj_map hb, MapKept.run_checkKey hk (K.is k), MapKept.run_findKey hk h1, MapKept.run_setObj_map _ hb, Result.andThen],
      ⟨_, _, (heap_set hb).1, stamped_push hs h2, by rw [putKV_none h3]; simp [he]⟩, ⟨rfl, rfl, rfl, by simp, fun i hi hne => (heap_set hb).2 i hne⟩⟩
  · have hkey : ∀ e', es[j]? = some e' → ({ e' with key := enc k, val := v } : MapEntry).key = e'.key := fun e' he' => by rw [hj] at he'; cases he'; exact h3.symm
    refine ⟨{ w with heap := w.heap.setIfInBounds m (.map (es.modify j fun e => { e with key := enc k, val := v }) clock) }, by simp [Instr.mapUpdate, run_underlying ht, MapKept.run_getObj_map hb, MapKept.run_checkKey hk (K.is k), MapKept.run_findKey hk h1, hj, h3, MapKept.run_keyThatStays (K.is k), MapKept.run_setObj_map _ hb, Result.andThen],
      ⟨_, _, (heap_set hb).1, stamped_modify hs _ _ (fun _ _ => rfl) (fun e' _ he' => hkey e' he'), ?_⟩, ⟨rfl, rfl, rfl, by simp, fun i hi hne => (heap_set hb).2 i hne⟩⟩
    rw [(at_first hp hpk hf).2.1 v, List.map_set, ← he]
    apply List.ext_getElem?
    intro i
    simp only [List.getElem?_map, Array.getElem?_toList, Array.getElem?_modify, List.getElem?_set, List.length_map, Array.length_toList]
    by_cases hij : j = i
    · subst hij
      have hlt : j < es.size := (Array.getElem?_eq_some_iff.1 hj).1
      simp [hlt]
    · simp [hij]

theorem MapAt.run_del (K : KeyEnc d enc) (h : MapAt enc w m kvs) (ht : P.underlying t = some (.map kt et)) (hk : P.underlying kt = some d) (k : κ) (ty : TypeId) :
    ∃ w', (Builtin.delete_ #[t, kt] ty #[.map (some m), enc k]).run P w = .ok (.tuple #[]) w' ∧ MapAt enc w' m (delKV kvs k) ∧ Mod (fun i => i = m) w w' := by
  obtain ⟨es, clock, hb, hs, he, hks, h1 | ⟨j, e, p, h1, hj, h3, hp, hpk, hpv, hf⟩⟩ := h.find K k
  · obtain ⟨h1, h2, h3⟩ := h1
    refine ⟨{ w with heap := w.heap.setIfInBounds m (.map es clock) }, by simp [Builtin.delete_, run_underlying ht, MapKept.run_getObj_map hb, MapKept.run_checkKey hk (K.is k), MapKept.run_findKey hk h1, MapKept.run_setObj_map _ hb, Result.andThen],
      ⟨_, _, (heap_set hb).1, hs, by rw [delKV_none h3]; exact he⟩, ⟨rfl, rfl, rfl, by simp, fun i hi hne => (heap_set hb).2 i hne⟩⟩
  · refine ⟨{ w with heap := w.heap.setIfInBounds m (.map (es.eraseIdxIfInBounds j) clock) }, by simp [Builtin.delete_, run_underlying ht, MapKept.run_getObj_map hb, MapKept.run_checkKey hk (K.is k), MapKept.run_findKey hk h1, MapKept.run_setObj_map _ hb, Result.andThen],
      ⟨_, _, (heap_set hb).1, stamped_erase hs j, ?_⟩, ⟨rfl, rfl, rfl, by simp, fun i hi hne => (heap_set hb).2 i hne⟩⟩
    have hlt : j < es.size := (Array.getElem?_eq_some_iff.1 hj).1
    rw [(at_first hp hpk hf).2.2]
    rw [Array.eraseIdxIfInBounds, dif_pos hlt, Array.toList_eraseIdx, map_erase, he, map_erase]

end

theorem strKey : KeyEnc TypeDesc.string Value.string := ⟨fun a b h => by injection h, fun _ => trivial⟩
theorem i64Key : KeyEnc (TypeDesc.int .i64) (Value.int .i64) := ⟨fun a b h => by injection h, fun _ => rfl⟩

/-! the laws at the operation -/
section
variable {κ : Type} [DecidableEq κ] {enc : κ → Value} {d : TypeDesc} {m : Nat} {kvs : List (κ × Value)} {P : Program} {t kt et : TypeId}

theorem wp_put (w : World) {o : Oper} {a : Act} {K' : Act → World → Prop} {Q : Exit → Act → World → Prop} (mo xo vo : Operand) (ho : o.op = Op.mapUpdate t mo xo vo)
    (K : KeyEnc d enc) (h : MapAt enc w m kvs) (ht : P.underlying t = some (.map kt et)) (hk : P.underlying kt = some d) (k : κ) (v : Value) (h1 : a.eval mo = .map (some m)) (h2 : a.eval xo = enc k) (h3 : a.eval vo = v)
    (hK : ∀ w', MapAt enc w' m (putKV kvs k v) → Mod (fun i => i = m) w w' → K' (a.put o.dst undef) w') : o.wp P a w K' Q := by
  obtain ⟨w', hrun, r1, r2⟩ := h.run_put K ht hk k v
  unfold Oper.wp
  simp [execOp, ho, h1, h2, h3, hrun, Result.andThen]
  exact hK w' r1 r2
theorem wpList_put (w : World) {ops : Array Oper} {rest : List Oper} {o : Oper} {a : Act} {Q : Exit → Act → World → Prop} (hg : o.guard = none) (mo xo vo : Operand) (ho : o.op = Op.mapUpdate t mo xo vo)
    (K : KeyEnc d enc) (h : MapAt enc w m kvs) (ht : P.underlying t = some (.map kt et)) (hk : P.underlying kt = some d) (k : κ) (v : Value) (h1 : a.eval mo = .map (some m)) (h2 : a.eval xo = enc k) (h3 : a.eval vo = v)
    (hK : ∀ w', MapAt enc w' m (putKV kvs k v) → Mod (fun i => i = m) w w' → wpList P ops Q rest (a.put o.dst undef) w') : wpList P ops Q (o :: rest) a w :=
  wpList_plain hg fun _ hK' => wp_put w mo xo vo ho K h ht hk k v h1 h2 h3 fun w' r1 r2 => hK' _ _ (hK w' r1 r2)
theorem step_put (w : World) {ops : Array Oper} {o : Oper} {a : Act} {K' : Act → World → Prop} {Q : Exit → Act → World → Prop} {E : Prop} (hg : o.guard = none) (mo xo vo : Operand) (ho : o.op = Op.mapUpdate t mo xo vo)
    (K : KeyEnc d enc) (h : MapAt enc w m kvs) (ht : P.underlying t = some (.map kt et)) (hk : P.underlying kt = some d) (k : κ) (v : Value) (h1 : a.eval mo = .map (some m)) (h2 : a.eval xo = enc k) (h3 : a.eval vo = v)
    (hK : ∀ w', MapAt enc w' m (putKV kvs k v) → Mod (fun i => i = m) w w' → K' (a.put o.dst undef) w') : if Region.wanted o (yielded ops a.tmps) = true then Oper.wp P o a w K' Q else E := by
  have hw : Region.wanted o (yielded ops a.tmps) = true := by simp [Region.wanted, hg]
  rw [if_pos hw]
  exact wp_put w mo xo vo ho K h ht hk k v h1 h2 h3 hK
theorem wp_look (w : World) {o : Oper} {a : Act} {K' : Act → World → Prop} {Q : Exit → Act → World → Prop} (mo xo : Operand) (c : Bool) (ho : o.op = Op.lookup t mo xo c)
    (K : KeyEnc d enc) (h : MapAt enc w m kvs) (ht : P.underlying t = some (.map kt et)) (hk : P.underlying kt = some d) {z : Value} (hz : (zeroValue et).run P w = .ok z w) (k : κ) (h1 : a.eval mo = .map (some m)) (h2 : a.eval xo = enc k)
    (v : Value) (hv : (if c then .tuple #[(lookKV kvs k).getD z, .bool (lookKV kvs k).isSome] else (lookKV kvs k).getD z) = v) (hK : K' (a.put o.dst v) w) : o.wp P a w K' Q := by
  have hrun := h.run_look (P := P) K ht hk hz k c
  rw [hv] at hrun
  unfold Oper.wp
  simp [execOp, ho, h1, h2, hrun, Result.andThen]
  exact hK
theorem wpList_look (w : World) {ops : Array Oper} {rest : List Oper} {o : Oper} {a : Act} {Q : Exit → Act → World → Prop} (hg : o.guard = none) (mo xo : Operand) (c : Bool) (ho : o.op = Op.lookup t mo xo c)
    (K : KeyEnc d enc) (h : MapAt enc w m kvs) (ht : P.underlying t = some (.map kt et)) (hk : P.underlying kt = some d) {z : Value} (hz : (zeroValue et).run P w = .ok z w) (k : κ) (h1 : a.eval mo = .map (some m)) (h2 : a.eval xo = enc k)
    (v : Value) (hv : (if c then .tuple #[(lookKV kvs k).getD z, .bool (lookKV kvs k).isSome] else (lookKV kvs k).getD z) = v) (hK : wpList P ops Q rest (a.put o.dst v) w) : wpList P ops Q (o :: rest) a w :=
  wpList_plain hg fun _ hK' => wp_look w mo xo c ho K h ht hk hz k h1 h2 v hv (hK' _ _ hK)
theorem wp_del (w : World) {o : Oper} {a : Act} {K' : Act → World → Prop} {Q : Exit → Act → World → Prop} (mo xo : Operand) (ho : o.op = Op.call { callee := Callee.builtin Builtin.delete, args := #[mo, xo], argTypes := #[t, kt] })
    (K : KeyEnc d enc) (h : MapAt enc w m kvs) (ht : P.underlying t = some (.map kt et)) (hk : P.underlying kt = some d) (k : κ) (h1 : a.eval mo = .map (some m)) (h2 : a.eval xo = enc k)
    (hK : ∀ w', MapAt enc w' m (delKV kvs k) → Mod (fun i => i = m) w w' → K' (a.put o.dst (.tuple #[])) w') : o.wp P a w K' Q := by
  obtain ⟨w', hrun, r1, r2⟩ := h.run_del (P := P) K ht hk k o.type
  unfold Oper.wp
  simp [execOp, ho, resolve, invoke, builtin, h1, h2, hrun, Result.andThen]
  exact hK w' r1 r2
theorem wpList_del (w : World) {ops : Array Oper} {rest : List Oper} {o : Oper} {a : Act} {Q : Exit → Act → World → Prop} (hg : o.guard = none) (mo xo : Operand) (ho : o.op = Op.call { callee := Callee.builtin Builtin.delete, args := #[mo, xo], argTypes := #[t, kt] })
    (K : KeyEnc d enc) (h : MapAt enc w m kvs) (ht : P.underlying t = some (.map kt et)) (hk : P.underlying kt = some d) (k : κ) (h1 : a.eval mo = .map (some m)) (h2 : a.eval xo = enc k)
    (hK : ∀ w', MapAt enc w' m (delKV kvs k) → Mod (fun i => i = m) w w' → wpList P ops Q rest (a.put o.dst (.tuple #[])) w') : wpList P ops Q (o :: rest) a w :=
  wpList_plain hg fun _ hK' => wp_del w mo xo ho K h ht hk k h1 h2 fun w' r1 r2 => hK' _ _ (hK w' r1 r2)
end

end Go.Proofs.YtgnpmmhpeianpaaGreatDoor

/- The disk as a plain thing, and what it is in memory. -/
namespace Go.Proofs.YtgnpmmhpeianpaaGreatDoor
open Go.RowKit

/-- a file. -/
structure Fl where
  name : ByteArray
  safe : Nat
  bytes : List UInt8
/-- a disk. -/
structure Dk where
  n : Int
  used : Int
  files : List Fl
  done : Int
  left : Int
  off : Bool

def findF : List Fl → ByteArray → Option Fl
  | [], _ => none
  | f :: r, k => if f.name = k then some f else findF r k
def putF : List Fl → Fl → List Fl
  | [], g => [g]
  | f :: r, g => if f.name = g.name then g :: r else f :: putF r g
def delF : List Fl → ByteArray → List Fl
  | [], _ => []
  | f :: r, k => if f.name = k then r else f :: delF r k

/-- may a name be? -/
def named (s : ByteArray) : Bool := decide (1 ≤ s.size) && (decide (s.size ≤ 100) && decide (Lib.indexByte s.data.toList 0 < 0))
def costF (f : Fl) : Int := 16 + f.name.size + f.bytes.length
def usedF : List Fl → Int
  | [] => 0
  | f :: r => costF f + usedF r

/-- a file as the map holds it. -/
def FlAt (w : World) (G : Nat → Prop) (p : ByteArray × Value) (f : Fl) : Prop :=
  p.1 = f.name ∧ ∃ A c, p.2 = .agg #[.string f.name, .int .i64 (f.safe : Int), .slice A f.bytes.length c] ∧ Rd w A f.bytes.length (by8 f.bytes) ∧ f.bytes.length ≤ c ∧ c ≤ 9223372036854775807 ∧ ∀ b, blkOf A = some b → G b
def FilesAt (w : World) (G : Nat → Prop) : List (ByteArray × Value) → List Fl → Prop
  | [], [] => True
  | p :: r, f :: s => FlAt w G p f ∧ FilesAt w G r s
  | _, _ => False

section
variable {w w' : World} {G G' S : Nat → Prop}
theorem FlAt.mod {p : ByteArray × Value} {f : Fl} (h : FlAt w G p f) (hm : Mod S w w') (hS : ∀ k, G k → ¬ S k) (hG : ∀ k, G k → G' k) : FlAt w' G' p f := by
  obtain ⟨h1, A, c, h2, h3, h4, h5, h6⟩ := h
  exact ⟨h1, A, c, h2, h3.mod hm fun _ b hb => hS b (h6 b hb), h4, h5, fun b hb => hG b (h6 b hb)⟩
theorem FilesAt.mod (hm : Mod S w w') (hS : ∀ k, G k → ¬ S k) (hG : ∀ k, G k → G' k) : ∀ {kvs : List (ByteArray × Value)} {fs : List Fl}, FilesAt w G kvs fs → FilesAt w' G' kvs fs
  | [], [], _ => trivial
  | _ :: _, _ :: _, h => ⟨h.1.mod hm hS hG, FilesAt.mod hm hS hG h.2⟩
  | [], _ :: _, h => h.elim
  | _ :: _, [], h => h.elim
theorem FilesAt.none_ (k : ByteArray) : ∀ {kvs : List (ByteArray × Value)} {fs : List Fl}, FilesAt w G kvs fs → findF fs k = none → lookKV kvs k = none
  | [], [], _, _ => rfl
  | p :: r, f :: s, h, hf => by
    rw [findF] at hf
    split at hf
    · cases hf
    · rename_i hn
      rw [lookKV, if_neg (by rw [h.1.1]; exact hn)]
      exact FilesAt.none_ k h.2 hf
  | [], _ :: _, h, _ => h.elim
  | _ :: _, [], h, _ => h.elim
theorem FilesAt.some_ (k : ByteArray) {f : Fl} : ∀ {kvs : List (ByteArray × Value)} {fs : List Fl}, FilesAt w G kvs fs → findF fs k = some f → ∃ v, lookKV kvs k = some v ∧ FlAt w G (k, v) f
  | [], [], _, hf => by cases hf
  | p :: r, g :: s, h, hf => by
    rw [findF] at hf
    split at hf
    · rename_i he
      cases hf
      exact ⟨p.2, by rw [lookKV, if_pos (by rw [h.1.1]; exact he)], by
        obtain ⟨h1, h2⟩ := h.1
        exact ⟨he.symm, h2⟩⟩
    · rename_i hn
      obtain ⟨v, h1, h2⟩ := FilesAt.some_ k h.2 hf
      exact ⟨v, by rw [lookKV, if_neg (by rw [h.1.1]; exact hn)]; exact h1, h2⟩
  | [], _ :: _, h, _ => h.elim
  | _ :: _, [], h, _ => h.elim
theorem FilesAt.put {f : Fl} {v : Value} (hv : FlAt w G (f.name, v) f) : ∀ {kvs : List (ByteArray × Value)} {fs : List Fl}, FilesAt w G kvs fs → FilesAt w G (putKV kvs f.name v) (putF fs f)
  | [], [], _ => ⟨hv, trivial⟩
  | p :: r, g :: s, h => by
    rw [putKV, putF]
    by_cases he : g.name = f.name
    · rw [if_pos he, if_pos (by rw [h.1.1]; exact he)]
      exact ⟨hv, h.2⟩
    · rw [if_neg he, if_neg (by rw [h.1.1]; exact he)]
      exact ⟨h.1, FilesAt.put hv h.2⟩
  | [], _ :: _, h => h.elim
  | _ :: _, [], h => h.elim
theorem FilesAt.del (k : ByteArray) : ∀ {kvs : List (ByteArray × Value)} {fs : List Fl}, FilesAt w G kvs fs → FilesAt w G (delKV kvs k) (delF fs k)
  | [], [], _ => trivial
  | p :: r, g :: s, h => by
    rw [delKV, delF]
    by_cases he : g.name = k
    · rw [if_pos he, if_pos (by rw [h.1.1]; exact he)]
      exact h.2
    · rw [if_neg he, if_neg (by rw [h.1.1]; exact he)]
      exact ⟨h.1, FilesAt.del k h.2⟩
  | [], _ :: _, h => h.elim
  | _ :: _, [], h => h.elim
end

/-- the cells of a disk. -/
def dkCells (D : Dk) (m : Nat) : Array Value := #[.int .i64 D.n, .int .i64 D.used, .map (some m), .int .i64 D.done, .int .i64 D.left, .bool D.off]

/-- The parts of a disk in memory: block d holds its cells, block m its map; the files' bytes lie in blocks of G. -/
structure DkAt (w : World) (G : Nat → Prop) (d m : Nat) (kvs : List (ByteArray × Value)) (D : Dk) : Prop where
  blk : Blk w d 121 (dkCells D m)
  map : MapAt Value.string w m kvs
  files : FilesAt w G kvs D.files
  dm : d ≠ m
  gd : ∀ k, G k → k ≠ d ∧ k ≠ m
  lay : Lay w
  pd : powG ≠ d
  pm : powG ≠ m

/-- A disk at block d, with all its blocks among F. -/
def DiskIs (w : World) (F : Nat → Prop) (d : Nat) (D : Dk) : Prop :=
  ∃ G m kvs, DkAt w G d m kvs D ∧ F d ∧ F m ∧ (∀ k, G k → F k) ∧ ¬ F powG ∧ ∀ k, F k → k < w.heap.size

section
variable {w w' : World} {F G S : Nat → Prop} {d m : Nat} {kvs : List (ByteArray × Value)} {D : Dk}
theorem DkAt.mod (h : DkAt w G d m kvs D) (hm : Mod S w w') (hd : ¬ S d) (hmm : ¬ S m) (hG : ∀ k, G k → ¬ S k) (hp : ¬ S powG) : DkAt w' G d m kvs D :=
  ⟨h.blk.mod hm hd, h.map.mod hm hmm, h.files.mod hm hG fun _ h => h, h.dm, h.gd, h.lay.mod hm hp, h.pd, h.pm⟩
theorem DkAt.mod0 (h : DkAt w G d m kvs D) (hm : Mod Non w w') : DkAt w' G d m kvs D := h.mod hm (fun h => h) (fun h => h) (fun _ _ h => h) fun h => h
theorem DiskIs.mod (h : DiskIs w F d D) (hm : Mod S w w') (hS : ∀ k, F k → ¬ S k) (hp : ¬ S powG) : DiskIs w' F d D := by
  obtain ⟨G, m, kvs, h1, h2, h3, h4, h5, h6⟩ := h
  exact ⟨G, m, kvs, h1.mod hm (hS _ h2) (hS _ h3) (fun k hk => hS k (h4 k hk)) hp, h2, h3, h4, h5, fun k hk => Nat.lt_of_lt_of_le (h6 k hk) hm.size⟩
theorem DiskIs.mod0 (h : DiskIs w F d D) (hm : Mod Non w w') : DiskIs w' F d D := h.mod hm (fun _ _ h => h) fun h => h
theorem DiskIs.lay (h : DiskIs w F d D) : Lay w := by obtain ⟨G, m, kvs, h1, _⟩ := h; exact h1.lay
theorem DiskIs.lt (h : DiskIs w F d D) : d < w.heap.size := by obtain ⟨G, m, kvs, h1, _⟩ := h; exact h1.blk.lt
/-- a cell of the disk turned. -/
theorem DkAt.set_ (h : DkAt w G d m kvs D) (i : Nat) (u : Value) (D' : Dk) (hf : D'.files = D.files) (hc : (dkCells D m).setIfInBounds i u = dkCells D' m) : DkAt (w.setCell ⟨d, i, none⟩ u) G d m kvs D' := by
  have hm : Mod (fun k => k = d) w (w.setCell ⟨d, i, none⟩ u) := Mod.setCell (S := fun k => k = d) (p := ⟨d, i, none⟩) (Mod.refl _ w) (.inl rfl) u
  refine ⟨?_, h.map.mod hm (fun e => h.dm e.symm), ?_, h.dm, h.gd, h.lay.mod hm h.pd, h.pd, h.pm⟩
  · rw [← hc]; exact h.blk.set_ i u
  · rw [hf]; exact h.files.mod hm (fun k hk => (h.gd k hk).1) fun _ h => h
/-- a file stored. -/
theorem DkAt.stored {v : Value} {f : Fl} {B : Nat} (h : DkAt w G d m kvs D) (hp : MapAt Value.string w' m (putKV kvs f.name v)) (hm : Mod (fun k => k = m) w w') {G' : Nat → Prop} (hG : ∀ k, G k → G' k) (hv : FlAt w' G' (f.name, v) f) (hG' : ∀ k, G' k → G k ∨ B ≤ k) (hdl : d < B) (hml : m < B) :
    DkAt w' G' d m (putKV kvs f.name v) { D with files := putF D.files f } := by
  exact ⟨h.blk.mod hm h.dm, hp, FilesAt.put hv (h.files.mod hm (fun k hk => (h.gd k hk).2) hG), h.dm, fun k hk => by
    rcases hG' k hk with h1 | h1
    · exact h.gd k h1
    · omega, h.lay.mod hm h.pm, h.pd, h.pm⟩
/-- a file taken away. -/
theorem DkAt.dropped {k : ByteArray} (h : DkAt w G d m kvs D) (hp : MapAt Value.string w' m (delKV kvs k)) (hm : Mod (fun k => k = m) w w') : DkAt w' G d m (delKV kvs k) { D with files := delF D.files k } :=
  ⟨h.blk.mod hm h.dm, hp, FilesAt.del k (h.files.mod hm (fun k hk => (h.gd k hk).2) fun _ h => h), h.dm, h.gd, h.lay.mod hm h.pm, h.pd, h.pm⟩
/-- the end of a call on the disk. -/
theorem dk_fin {G' : Nat → Prop} (h : DkAt w' G' d m kvs D) (hd : F d) (hm : F m) (hp : ¬ F powG) (hl : ∀ k, F k → k < w.heap.size) (hG : ∀ k, G' k → F k ∨ (w.heap.size ≤ k ∧ k < w'.heap.size)) (hmod : Mod F w w') (hpl : powG < w.heap.size) :
    ∃ F', DiskIs w' F' d D ∧ Mod F w w' ∧ ∀ k, F' k → F k ∨ w.heap.size ≤ k :=
  ⟨fun k => F k ∨ (w.heap.size ≤ k ∧ k < w'.heap.size), ⟨G', m, kvs, h, .inl hd, .inl hm, hG, fun e => by
    rcases e with e | e
    · exact hp e
    · omega, fun k hk => by
    rcases hk with hk | hk
    · exact Nat.lt_of_lt_of_le (hl k hk) hmod.size
    · exact hk.2⟩, hmod, fun k hk => hk.imp id fun h => h.1⟩
theorem DkAt.setUsed (h : DkAt w G d m kvs D) (x : Int) : DkAt (w.setCell ⟨d, 1, none⟩ (.int .i64 x)) G d m kvs { D with used := x } := h.set_ 1 _ _ rfl rfl
theorem DkAt.setDone (h : DkAt w G d m kvs D) (x : Int) : DkAt (w.setCell ⟨d, 3, none⟩ (.int .i64 x)) G d m kvs { D with done := x } := h.set_ 3 _ _ rfl rfl
theorem DkAt.setLeft (h : DkAt w G d m kvs D) (x : Int) : DkAt (w.setCell ⟨d, 4, none⟩ (.int .i64 x)) G d m kvs { D with left := x } := h.set_ 4 _ _ rfl rfl
theorem DkAt.setOff (h : DkAt w G d m kvs D) (x : Bool) : DkAt (w.setCell ⟨d, 5, none⟩ (.bool x)) G d m kvs { D with off := x } := h.set_ 5 _ _ rfl rfl
end

end Go.Proofs.YtgnpmmhpeianpaaGreatDoor

/- The length of a map. -/
namespace Go.Proofs.YtgnpmmhpeianpaaGreatDoor
open Go.RowKit

theorem MapAt.run_len {P : Program} {κ : Type} {enc : κ → Value} {w : World} {m : Nat} {kvs : List (κ × Value)} {t kt et : TypeId} (ty : TypeId) (h : MapAt enc w m kvs) (ht : P.underlying t = some (.map kt et)) :
    (Builtin.len_ #[t] ty #[.map (some m)]).run P w = .ok (.int .i64 (kvs.length : Int)) w := by
  obtain ⟨es, clock, hb, _, he⟩ := h
  have hl : es.size = kvs.length := by
    have := congrArg List.length he
    simpa using this
  simp [Builtin.len_, run_underlying ht, MapKept.run_getObj_map hb, goInt, hl]

end Go.Proofs.YtgnpmmhpeianpaaGreatDoor
