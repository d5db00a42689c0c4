/- bytes.Compare, key.Less, bytes.Equal. -/
import Derived.Test.YtgnpmmhpeianpaaGreatDoorB14
import Derived.Laws.LoneSync
import Derived.Lib.Bytealg
import Derived.Laws.Externs
namespace Go.Proofs.YtgnpmmhpeianpaaGreatDoor
open Go.RowKit

def lessB (a b : List UInt8) : Bool := decide (a < b)
theorem run_loadBytes {P : Program} {w : World} {b : Nat} : ∀ (l : List UInt8) (o : Nat) (acc : ByteArray), (∀ j u, (by8 l)[j]? = some u → w.cell? ⟨b, o + j, none⟩ = some u) →
    ∃ s : ByteArray, (Extern.Bytes.loadBytes ⟨b, o, none⟩ l.length acc).run P w = .ok s w ∧ s.data.toList = acc.data.toList ++ l
  | [], o, acc, _ => ⟨acc, rfl, by simp⟩
  | c :: r, o, acc, h => by
    have h0 := h 0 (b8 c) rfl
    rw [Nat.add_zero] at h0
    obtain ⟨s, h1, h2⟩ := run_loadBytes r (o + 1) (acc.push c) fun j u hu => by
      have := h (j + 1) u (by rw [← hu]; rfl)
      rw [show o + (j + 1) = o + 1 + j by omega] at this
      exact this
    refine ⟨s, ?_, by rw [h2]; simp [ByteArray.push]⟩
    have hc : (((c.toNat : Int).toNat).toUInt8) = c := by simp
    have ha : (⟨b, o, none⟩ : Addr).add 1 = ⟨b, o + 1, none⟩ := by unfold Addr.add; simp
    show (Extern.Bytes.loadBytes ⟨b, o, none⟩ (r.length + 1) acc).run P w = _
    rw [Extern.Bytes.loadBytes]
    simp only [Sem.run_bind, run_load, h0, b8, Result.andThen_ok]
    show Sem.run P (Extern.Bytes.loadBytes ((⟨b, o, none⟩ : Addr).add 1) r.length (acc.push (((c.toNat : Int).toNat).toUInt8))) w = _
    rw [hc, ha]
    exact h1
theorem run_bytesOf {P : Program} {w : World} {A : Option Addr} {n c : Nat} {l : List UInt8} (h : Rd w A n (by8 l)) : ∃ s : ByteArray, (Extern.Bytes.bytesOf (.slice A n c)).run P w = .ok s w ∧ s.data.toList = l := by
  have hl : l.length = n := by simpa using h.1
  subst hl
  cases A with
  | none =>
    have : l = [] := by
      rcases Nat.eq_zero_or_pos l.length with h0 | h0
      · exact List.eq_nil_of_length_eq_zero h0
      · obtain ⟨_, _, h', _⟩ := h.2 h0; cases h'
    subst this
    exact ⟨.empty, rfl, rfl⟩
  | some a =>
    rcases Nat.eq_zero_or_pos l.length with h0 | h0
    · have : l = [] := List.eq_nil_of_length_eq_zero h0
      subst this
      exact ⟨.empty, rfl, rfl⟩
    · obtain ⟨b, o, h1, h2⟩ := h.2 h0
      cases h1
      obtain ⟨s, e1, e2⟩ := run_loadBytes (P := P) (w := w) (b := b) l o .empty h2
      exact ⟨s, e1, by rw [e2]; rfl⟩
theorem compareBytes_is : ∀ a b : List UInt8, Lib.compareBytes a b = if a < b then -1 else if b < a then 1 else 0
  | [], [] => by simp [Lib.compareBytes]
  | [], _ :: _ => by simp [Lib.compareBytes]
  | _ :: _, [] => by simp [Lib.compareBytes]
  | x :: a, y :: b => by
    unfold Lib.compareBytes
    rw [compareBytes_is a b]
    simp only [List.cons_lt_cons_iff]
    by_cases h1 : x < y
    · simp [h1]
    · by_cases h2 : y < x
      · have : x ≠ y := fun e => UInt8.lt_irrefl x (by rw [e] at h2 ⊢; exact h2)
        simp [h1, h2, this]
      · obtain rfl : x = y := UInt8.le_antisymm (UInt8.not_lt.1 h2) (UInt8.not_lt.1 h1)
        simp [h1]
theorem less_iff (a b : List UInt8) : (Lib.compareBytes a b < 0) ↔ a < b := by
  rw [compareBytes_is]
  split
  · simp [*]
  · split <;> simp [*]

set_option maxRecDepth 100000 in
set_option maxHeartbeats 400000 in
theorem compare_any (A B : Option Addr) (n m c d : Nat) (l k : List UInt8) (w : World) (h : Rd w A n (by8 l)) (g : Rd w B m (by8 k)) :
    Calls Tryz.prog 223 #[.slice A n c, .slice B m d] w fun e w' => e = .returned (.int .i64 (Lib.compareBytes l k)) ∧ w = w' := by
  obtain ⟨s, hs, hsl⟩ := run_bytesOf (P := Tryz.prog) (c := c) h
  obtain ⟨t, ht, htl⟩ := run_bytesOf (P := Tryz.prog) (c := d) g
  have hcall : (callFunc 269 #[.slice A n c, .slice B m d]).run Tryz.prog w = .ok (.value (.int .i64 (Lib.compareBytes l k))) w := by
    rw [run_callFunc_extern Tryz.func269 (by kernel_rfl) (by kernel_rfl) (by kernel_rfl) (e := Extern.BytealgCompare.compare) (by kernel_rfl)]
    change (Sem.run Tryz.prog (do pure (goInt (Extern.BytealgCompare.cmp (← Extern.Bytes.bytesOf (.slice A n c)) (← Extern.Bytes.bytesOf (.slice B m d))))) w).andThen _ = _
    simp only [Sem.run_bind, hs, ht, Sem.run_pure, Result.andThen_ok]
    rw [Lib.cmp_eq, hsl, htl]
    rfl
  generalize Lib.compareBytes l k = x at *
  clear hs ht h g
  go_enter Tryz.func223, Tryz.ntmps223
  go_wp2
  go_ret
  exact ⟨rfl, rfl⟩

set_option maxRecDepth 100000 in
set_option maxHeartbeats 400000 in
theorem less_any (A B : Option Addr) (n m c d : Nat) (l k : List UInt8) (w : World) (h : Rd w A n (by8 l)) (g : Rd w B m (by8 k)) :
    Calls Tryz.prog 175 #[.slice A n c, .slice B m d] w fun e w' => e = .returned (.bool (lessB l k)) ∧ w = w' := by
  obtain ⟨x, hx⟩ : ∃ x, Lib.compareBytes l k = x := ⟨_, rfl⟩
  have hC := compare_any A B n m c d l k w h g
  rw [hx] at hC
  have hl : lessB l k = decide (x < 0) := by unfold lessB; rw [← hx]; simp [less_iff]
  rw [hl]
  have HC := Lib.hid hC
  clear hC hx hl h g
  go_enter Tryz.func175, Tryz.ntmps175
  go_wp2_with (go_at_call 223; refine HC.out.mono ?_; rintro e w1 ⟨rfl, rfl⟩)
  go_ret
  exact ⟨rfl, rfl⟩

set_option maxRecDepth 100000 in
/-- bytes.Equal of two slices that read. -/
theorem equal_any (A B : Option Addr) (n c m d : Nat) (l k : List UInt8) (w : World) (h1 : Rd w A n (by8 l)) (h2 : Rd w B m (by8 k)) :
    Calls Tryz.prog 117 #[.slice A n c, .slice B m d] w fun e w' => e = .returned (.bool (decide (l = k))) ∧ w' = w := by
  have e1 := conv_str w 27 9 5 A n c l Tryz.underlying27 Tryz.underlying5 Tryz.underlying9 h1
  have e2 := conv_str w 27 9 5 B m d k Tryz.underlying27 Tryz.underlying5 Tryz.underlying9 h2
  clear h1 h2
  by_cases he : l = k
  · subst he
    rw [decide_eq_true rfl]
    go_enter Tryz.func117, Tryz.ntmps117
    go_wp2
    go_ret
    exact ⟨by first | rfl | simp, rfl⟩
  · have hs2 : (l == k) = false := beq_eq_false_iff_ne.2 he
    rw [decide_eq_false he]
    clear he
    go_enter Tryz.func117, Tryz.ntmps117
    go_wp2
    go_ret
    exact ⟨by first | rfl | simp [hs2], rfl⟩

end Go.Proofs.YtgnpmmhpeianpaaGreatDoor
