/- Bytes as a string; slices of byte slices. -/
import Derived.Test.YtgnpmmhpeianpaaGreatDoorB06
import Derived.Laws.IdiomStrings
import Derived.Laws.BytesArg
import Derived.BigQuiet
import Derived.Deep.QuietTactic
import Derived.Test.YtgnpmmhpeianpaaGreatDoorB01
namespace Go.Proofs.YtgnpmmhpeianpaaGreatDoor
open Go.RowKit

theorem conv_str {P : Program} (w : World) (src dst e : TypeId) (A : Option Addr) (n c : Nat) (l : List UInt8) (hs : P.underlying src = some (.slice e)) (he : P.underlying e = some (.int .u8)) (hd : P.underlying dst = some .string)
    (h : Rd w A n (by8 l)) : (convert src dst (.slice A n c)).run P w = .ok (.string ⟨l.toArray⟩) w := by
  have hl : l.length = n := by simpa using h.1
  cases A with
  | none =>
    have : n = 0 := by
      rcases Nat.eq_zero_or_pos n with h0 | h0
      · exact h0
      · obtain ⟨_, _, h', _⟩ := h.2 h0; cases h'
    subst this
    obtain rfl := List.eq_nil_of_length_eq_zero hl
    exact run_convert_bytes_nil w src e hs he 0 c dst hd
  | some ad =>
    subst hl
    refine run_convert_bytes_back w src dst e ad c l hs he hd fun j hj => ?_
    obtain ⟨b, o, h1, h2⟩ := h.2 (by omega)
    cases h1
    have h3 := h2 j (b8 l[j]) (by rw [by8_get, List.getElem?_eq_getElem hj]; rfl)
    have : (⟨b, o, none⟩ : Addr).add j = ⟨b, o + j, none⟩ := by unfold Addr.add; split <;> simp_all
    rw [this]
    exact h3

theorem str_inj (l k : List UInt8) : (⟨l.toArray⟩ : ByteArray) = ⟨k.toArray⟩ ↔ l = k := by
  constructor
  · intro h
    have := congrArg (fun s : ByteArray => s.data.toList) h
    simpa using this
  · rintro rfl; rfl

/-- a slice of slices of bytes can be read. -/
def RdS (w : World) (A : Option Addr) (n : Nat) (xs : List Bs) : Prop := Rd w A n (xs.map Bs.val) ∧ ∀ x ∈ xs, Rd w x.A x.n (by8 x.l)

theorem RdS.at_ {w : World} {A : Option Addr} {n : Nat} {xs : List Bs} (h : RdS w A n xs) {k : Nat} (hk : k < n) :
    ∃ b o q, A = some ⟨b, o, none⟩ ∧ xs[k]? = some q ∧ w.cell? ⟨b, o + k, none⟩ = some q.val ∧ Rd w q.A q.n (by8 q.l) := by
  obtain ⟨b, o, rfl, u, hu, hc⟩ := h.1.at_ hk
  rw [List.getElem?_map] at hu
  cases hx : xs[k]? with
  | none => rw [hx] at hu; cases hu
  | some q =>
    rw [hx] at hu
    simp only [Option.map_some, Option.some.injEq] at hu
    subst hu
    exact ⟨b, o, q, rfl, rfl, hc, h.2 q (List.mem_of_getElem? hx)⟩

theorem RdS.mod0 {w w' : World} {A : Option Addr} {n : Nat} {xs : List Bs} (h : RdS w A n xs) (hm : Mod Non w w') : RdS w' A n xs := ⟨h.1.mod0 hm, fun x hx => (h.2 x hx).mod0 hm⟩

end Go.Proofs.YtgnpmmhpeianpaaGreatDoor

/- sawyerref02.Same. -/
namespace Go.Proofs.YtgnpmmhpeianpaaGreatDoor
open Go.RowKit

set_option maxRecDepth 100000 in
/-- sawyerref02.Same. -/
theorem sameQ_any (A B : Option Addr) (n c m d : Nat) (l k : List UInt8) (w : World) (h1 : Rd w A n (by8 l)) (h2 : Rd w B m (by8 k)) :
    Calls Tryz.prog 8 #[.slice A n c, .slice B m d] w fun e w' => e = .returned (.bool (decide (l = k))) ∧ w' = w := by
  have e1 := conv_str w 27 9 5 A n c l Tryz.underlying27 Tryz.underlying5 Tryz.underlying9 h1
  have e2 := conv_str w 27 9 5 B m d k Tryz.underlying27 Tryz.underlying5 Tryz.underlying9 h2
  clear h1 h2
  by_cases he : l = k
  · subst he
    rw [decide_eq_true rfl]
    go_enter Tryz.func8, Tryz.ntmps8
    go_wp2
    go_ret
    exact ⟨by first | rfl | simp, rfl⟩
  · have hs2 : (l == k) = false := beq_eq_false_iff_ne.2 he
    rw [decide_eq_false he]
    clear he
    go_enter Tryz.func8, Tryz.ntmps8
    go_wp2
    go_ret
    exact ⟨by first | rfl | simp [hs2], rfl⟩

end Go.Proofs.YtgnpmmhpeianpaaGreatDoor

/- A region that draws its order, walked once over a CLASS of worlds: callees that make memory of their own are quiet there. -/
namespace Go.Proofs.YtgnpmmhpeianpaaGreatDoor
open Go.RowKit

/-- a world of a class. -/
structure WorldOf (S : World → Prop) where
  W : World
  ok : S W

theorem wp_region_class {P : Program} {S : World → Prop} {id : Nat} {Q : Exit → Act → World → Prop} {a : Act} {w : World} {l : List Oper} (hm : P.follows .mixedOrders = true) (hB : Region.lexB .any l.toArray = true)
    (hC : S { w with drawn := w.drawn + 1 })
    (h : wpQuiet P l.toArray (fun w' => ∃ n : WorldOf S, w' = n.W) (fun a' => ∀ x : WorldOf S, Q .normal a' x.W) l a) : (Code.region id l.toArray true).wp P Q a w := by
  refine wp_region_quiet (C := fun w' => ∃ n : WorldOf S, w' = n.W) hm hB ⟨⟨_, hC⟩, rfl⟩ ?_
  have e : (fun a' => ∀ w', (∃ n : WorldOf S, w' = n.W) → Q .normal a' w') = fun a' => ∀ x : WorldOf S, Q .normal a' x.W := by
    funext a'
    exact propext ⟨fun h x => h _ ⟨x, rfl⟩, fun h w' ⟨x, e⟩ => e ▸ h x⟩
  rw [e]
  exact h

theorem Calls.quiet_class {P : Program} {f : FuncId} {args : Array Value} {w : World} {v : Value} {x : WorldOf (Mod Non w)}
    (h : Calls P f args x.W fun e w' => e = .returned v ∧ Mod Non x.W w') : Calls P f args x.W fun e w'' => e = .returned v ∧ ∃ n : WorldOf (Mod Non w), w'' = n.W :=
  h.mono fun _ w' ⟨he, hm⟩ => ⟨he, ⟨w', x.ok.trans0 hm⟩, rfl⟩

end Go.Proofs.YtgnpmmhpeianpaaGreatDoor
