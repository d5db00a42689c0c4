/- Bytes as a string; slices of byte slices. -/
import Derived.Test.YtiomlnhfhmpejaaGreatDoorB13
import Derived.Laws.IdiomStrings
import Derived.Laws.BytesArg
import Derived.BigQuiet
import Derived.Deep.QuietTactic
namespace Go.Proofs.YtiomlnhfhmpejaaGreatDoor
open Go.RowKit

theorem conv_str {P : Program} (w : World) (src dst e : TypeId) (A : Option Addr) (n c : Nat) (l : List UInt8) (hs : P.underlying src = some (.slice e)) (he : P.underlying e = some (.int .u8)) (hd : P.underlying dst = some .string)
    (h : Rd w A n (by8 l)) : (convert src dst (.slice A n c)).run P w = .ok (.string ⟨l.toArray⟩) w := by
  have hl : l.length = n := by simpa using h.1
  cases A with
  | none =>
    have : n = 0 := by
      rcases Nat.eq_zero_or_pos n with h0 | h0
      · exact h0
      · obtain ⟨_, _, h', _⟩ := h.2 h0; cases h'
    subst this
    obtain rfl := List.eq_nil_of_length_eq_zero hl
    exact run_convert_bytes_nil w src e hs he 0 c dst hd
  | some ad =>
    subst hl
    refine run_convert_bytes_back w src dst e ad c l hs he hd fun j hj => ?_
    obtain ⟨b, o, h1, h2⟩ := h.2 (by omega)
    cases h1
    have h3 := h2 j (b8 l[j]) (by rw [by8_get, List.getElem?_eq_getElem hj]; rfl)
    have : (⟨b, o, none⟩ : Addr).add j = ⟨b, o + j, none⟩ := by unfold Addr.add; split <;> simp_all
    rw [this]
    exact h3

theorem str_inj (l k : List UInt8) : (⟨l.toArray⟩ : ByteArray) = ⟨k.toArray⟩ ↔ l = k := by
  constructor
  · intro h
    have := congrArg (fun s : ByteArray => s.data.toList) h
    simpa using this
  · rintro rfl; rfl

/-- a slice of slices of bytes can be read. -/
def RdS (w : World) (A : Option Addr) (n : Nat) (xs : List Bs) : Prop := Rd w A n (xs.map Bs.val) ∧ ∀ x ∈ xs, Rd w x.A x.n (by8 x.l)

theorem RdS.at_ {w : World} {A : Option Addr} {n : Nat} {xs : List Bs} (h : RdS w A n xs) {k : Nat} (hk : k < n) :
    ∃ b o q, A = some ⟨b, o, none⟩ ∧ xs[k]? = some q ∧ w.cell? ⟨b, o + k, none⟩ = some q.val ∧ Rd w q.A q.n (by8 q.l) := by
  obtain ⟨b, o, rfl, u, hu, hc⟩ := h.1.at_ hk
  rw [List.getElem?_map] at hu
  cases hx : xs[k]? with
  | none => rw [hx] at hu; cases hu
  | some q =>
    rw [hx] at hu
    simp only [Option.map_some, Option.some.injEq] at hu
    subst hu
    exact ⟨b, o, q, rfl, rfl, hc, h.2 q (List.mem_of_getElem? hx)⟩

theorem RdS.mod0 {w w' : World} {A : Option Addr} {n : Nat} {xs : List Bs} (h : RdS w A n xs) (hm : Mod Non w w') : RdS w' A n xs := ⟨h.1.mod0 hm, fun x hx => (h.2 x hx).mod0 hm⟩

end Go.Proofs.YtiomlnhfhmpejaaGreatDoor
