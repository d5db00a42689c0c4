/- bytes.Compare, key.Less, cmp.Compare and cmp.Or of ints; edit: in, isKey. -/
import Derived.Test.YtdpjnpjmokncdaaGreatDoorB24
import Derived.Laws.LoneSync
import Derived.Lib.Bytealg
import Derived.Laws.Externs
import Derived.Test.YtdpjnpjmokncdaaGreatDoorShelf
namespace Go.Proofs.YtdpjnpjmokncdaaGreatDoor
open Go.RowKit

theorem run_loadBytes {P : Program} {w : World} {b : Nat} : ∀ (l : List UInt8) (o : Nat) (acc : ByteArray), (∀ j u, (by8 l)[j]? = some u → w.cell? ⟨b, o + j, none⟩ = some u) →
    ∃ s : ByteArray, (Extern.Bytes.loadBytes ⟨b, o, none⟩ l.length acc).run P w = .ok s w ∧ s.data.toList = acc.data.toList ++ l
  | [], o, acc, _ => ⟨acc, rfl, by simp⟩
  | c :: r, o, acc, h => by
    have h0 := h 0 (b8 c) rfl
    rw [Nat.add_zero] at h0
    obtain ⟨s, h1, h2⟩ := run_loadBytes r (o + 1) (acc.push c) fun j u hu => by
      have := h (j + 1) u (by rw [← hu]; rfl)
      rw [show o + (j + 1) = o + 1 + j by omega] at this
      exact this
    refine ⟨s, ?_, by rw [h2]; simp [ByteArray.push]⟩
    have hc : (((c.toNat : Int).toNat).toUInt8) = c := by simp
    have ha : (⟨b, o, none⟩ : Addr).add 1 = ⟨b, o + 1, none⟩ := by unfold Addr.add; simp
    show (Extern.Bytes.loadBytes ⟨b, o, none⟩ (r.length + 1) acc).run P w = _
    rw [Extern.Bytes.loadBytes]
    simp only [Sem.run_bind, run_load, h0, b8, Result.andThen_ok]
    show Sem.run P (Extern.Bytes.loadBytes ((⟨b, o, none⟩ : Addr).add 1) r.length (acc.push (((c.toNat : Int).toNat).toUInt8))) w = _
    rw [hc, ha]
    exact h1
theorem run_bytesOf {P : Program} {w : World} {A : Option Addr} {n c : Nat} {l : List UInt8} (h : Rd w A n (by8 l)) : ∃ s : ByteArray, (Extern.Bytes.bytesOf (.slice A n c)).run P w = .ok s w ∧ s.data.toList = l := by
  have hl : l.length = n := by simpa using h.1
  subst hl
  cases A with
  | none =>
    have : l = [] := by
      rcases Nat.eq_zero_or_pos l.length with h0 | h0
      · exact List.eq_nil_of_length_eq_zero h0
      · obtain ⟨_, _, h', _⟩ := h.2 h0; cases h'
    subst this
    exact ⟨.empty, rfl, rfl⟩
  | some a =>
    rcases Nat.eq_zero_or_pos l.length with h0 | h0
    · have : l = [] := List.eq_nil_of_length_eq_zero h0
      subst this
      exact ⟨.empty, rfl, rfl⟩
    · obtain ⟨b, o, h1, h2⟩ := h.2 h0
      cases h1
      obtain ⟨s, e1, e2⟩ := run_loadBytes (P := P) (w := w) (b := b) l o .empty h2
      exact ⟨s, e1, by rw [e2]; rfl⟩
theorem compareBytes_is : ∀ a b : List UInt8, Lib.compareBytes a b = if a < b then -1 else if b < a then 1 else 0
  | [], [] => by simp [Lib.compareBytes]
  | [], _ :: _ => by simp [Lib.compareBytes]
  | _ :: _, [] => by simp [Lib.compareBytes]
  | x :: a, y :: b => by
    unfold Lib.compareBytes
    rw [compareBytes_is a b]
    simp only [List.cons_lt_cons_iff]
    by_cases h1 : x < y
    · simp [h1]
    · by_cases h2 : y < x
      · have : x ≠ y := fun e => UInt8.lt_irrefl x (by rw [e] at h2 ⊢; exact h2)
        simp [h1, h2, this]
      · obtain rfl : x = y := UInt8.le_antisymm (UInt8.not_lt.1 h2) (UInt8.not_lt.1 h1)
        simp [h1]
theorem less_iff (a b : List UInt8) : (Lib.compareBytes a b < 0) ↔ a < b := by
  rw [compareBytes_is]
  split
  · simp [*]
  · split <;> simp [*]

set_option maxRecDepth 100000 in
set_option maxHeartbeats 400000 in
theorem compare_any (A B : Option Addr) (n m c d : Nat) (l k : List UInt8) (w : World) (h : Rd w A n (by8 l)) (g : Rd w B m (by8 k)) :
    Calls Tryz.prog 103 #[.slice A n c, .slice B m d] w fun e w' => e = .returned (.int .i64 (Lib.compareBytes l k)) ∧ w = w' := by
  obtain ⟨s, hs, hsl⟩ := run_bytesOf (P := Tryz.prog) (c := c) h
  obtain ⟨t, ht, htl⟩ := run_bytesOf (P := Tryz.prog) (c := d) g
  have hcall : (callFunc 138 #[.slice A n c, .slice B m d]).run Tryz.prog w = .ok (.value (.int .i64 (Lib.compareBytes l k))) w := by
    rw [run_callFunc_extern Tryz.func138 (by kernel_rfl) (by kernel_rfl) (by kernel_rfl) (e := Extern.BytealgCompare.compare) (by kernel_rfl)]
    change (Sem.run Tryz.prog (do pure (goInt (Extern.BytealgCompare.cmp (← Extern.Bytes.bytesOf (.slice A n c)) (← Extern.Bytes.bytesOf (.slice B m d))))) w).andThen _ = _
    simp only [Sem.run_bind, hs, ht, Sem.run_pure, Result.andThen_ok]
    rw [Lib.cmp_eq, hsl, htl]
    rfl
  generalize Lib.compareBytes l k = x at *
  clear hs ht h g
  go_enter Tryz.func103, Tryz.ntmps103
  go_wp2
  go_ret
  exact ⟨rfl, rfl⟩

set_option maxRecDepth 100000 in
set_option maxHeartbeats 400000 in
theorem less_any (A B : Option Addr) (n m c d : Nat) (l k : List UInt8) (w : World) (h : Rd w A n (by8 l)) (g : Rd w B m (by8 k)) :
    Calls Tryz.prog 64 #[.slice A n c, .slice B m d] w fun e w' => e = .returned (.bool (lessB l k)) ∧ w = w' := by
  obtain ⟨x, hx⟩ : ∃ x, Lib.compareBytes l k = x := ⟨_, rfl⟩
  have hC := compare_any A B n m c d l k w h g
  rw [hx] at hC
  have hl : lessB l k = decide (x < 0) := by unfold lessB; rw [← hx]; simp [less_iff]
  rw [hl]
  have HC := Lib.hid hC
  clear hC hx hl h g
  go_enter Tryz.func64, Tryz.ntmps64
  go_wp2_with (go_at_call 103; refine HC.out.mono ?_; rintro e w1 ⟨rfl, rfl⟩)
  go_ret
  exact ⟨rfl, rfl⟩

theorem isNaNI_any (x : Int) (w : World) : Calls Tryz.prog 137 #[.int .i64 x] w fun e w' => e = .returned (.bool false) ∧ w' = w := by
  first | exact Tryz.cmp_isNaN_int x w | exact Tryz.cmp_isNaN_int2 x w
def cmpI (x y : Int) : Int := if x < y then -1 else if y < x then 1 else 0
set_option maxRecDepth 100000 in
set_option maxHeartbeats 400000 in
theorem cmpInt_any (x y : Int) (w : World) : Calls Tryz.prog 101 #[.int .i64 x, .int .i64 y] w fun e w' => e = .returned (.int .i64 (cmpI x y)) ∧ w = w' := by
  rcases Int.lt_trichotomy x y with h | rfl | h
  · have hc : cmpI x y = -1 := by unfold cmpI; rw [if_pos h]
    rw [hc]
    clear hc
    have d1 : decide (x < y) = true := decide_eq_true h
    go_enter Tryz.func101, Tryz.ntmps101
    go_wp2_with (go_at_call 137; refine (isNaNI_any _ _).mono ?_; rintro e w1 ⟨rfl, hw1⟩; subst hw1)
    go_ret
    exact ⟨rfl, rfl⟩
  · have hc : cmpI x x = 0 := by unfold cmpI; simp
    rw [hc]
    clear hc
    go_enter Tryz.func101, Tryz.ntmps101
    go_wp2_with (go_at_call 137; refine (isNaNI_any _ _).mono ?_; rintro e w1 ⟨rfl, hw1⟩; subst hw1)
    go_ret
    exact ⟨rfl, rfl⟩
  · have hc : cmpI x y = 1 := by unfold cmpI; rw [if_neg (by omega), if_pos h]
    rw [hc]
    clear hc
    have d1 : decide (x < y) = false := decide_eq_false (by omega)
    have d2 : decide (y < x) = true := decide_eq_true h
    go_enter Tryz.func101, Tryz.ntmps101
    go_wp2_with (go_at_call 137; refine (isNaNI_any _ _).mono ?_; rintro e w1 ⟨rfl, hw1⟩; subst hw1)
    go_ret
    exact ⟨rfl, rfl⟩

set_option maxRecDepth 100000 in
set_option maxHeartbeats 400000 in
theorem inN_any (n : Int) (w : World) : Calls Tryz.prog 61 #[.int .i64 n] w fun e w' => e = .returned (.bool (inN n)) ∧ w = w' := by
  by_cases h0 : 0 ≤ n
  · by_cases h1 : n ≤ 1099511627776
    · rw [show inN n = true from decide_eq_true ⟨h0, h1⟩]
      have d1 : decide (n ≤ 1099511627776) = true := decide_eq_true h1
      have d0 : decide (0 ≤ n) = true := decide_eq_true h0
      go_enter Tryz.func61, Tryz.ntmps61
      go_wp2_with fail
      go_ret
      exact ⟨rfl, rfl⟩
    · rw [show inN n = false from decide_eq_false (fun h => h1 h.2)]
      have d1 : decide (n ≤ 1099511627776) = false := decide_eq_false h1
      have d0 : decide (0 ≤ n) = true := decide_eq_true h0
      go_enter Tryz.func61, Tryz.ntmps61
      go_wp2_with fail
      go_ret
      exact ⟨rfl, rfl⟩
  · rw [show inN n = false from decide_eq_false (fun h => h0 h.1)]
    have d0 : decide (0 ≤ n) = false := decide_eq_false h0
    go_enter Tryz.func61, Tryz.ntmps61
    go_wp2_with fail
    go_ret
    exact ⟨rfl, rfl⟩

set_option maxRecDepth 100000 in
set_option maxHeartbeats 400000 in
theorem isKey_any (A : Option Addr) (n c : Nat) (l : List UInt8) (hl : l.length = n) (w : World) : Calls Tryz.prog 100 #[.slice A n c] w fun e w' => e = .returned (.bool (isKeyB l)) ∧ w = w' := by
  by_cases h0 : 1 ≤ n
  · by_cases h1 : n ≤ 64
    · rw [show isKeyB l = true from decide_eq_true ⟨by omega, by omega⟩]
      have d1 : decide ((n : Int) ≤ 64) = true := decide_eq_true (by omega)
      have d0 : decide (1 ≤ (n : Int)) = true := decide_eq_true (by omega)
      clear hl
      go_enter Tryz.func100, Tryz.ntmps100
      go_wp2_with fail
      go_ret
      exact ⟨rfl, rfl⟩
    · rw [show isKeyB l = false from decide_eq_false (fun h => by omega)]
      have d1 : decide ((n : Int) ≤ 64) = false := decide_eq_false (by omega)
      have d0 : decide (1 ≤ (n : Int)) = true := decide_eq_true (by omega)
      clear hl
      go_enter Tryz.func100, Tryz.ntmps100
      go_wp2_with fail
      go_ret
      exact ⟨rfl, rfl⟩
  · rw [show isKeyB l = false from decide_eq_false (fun h => by omega)]
    have d0 : decide (1 ≤ (n : Int)) = false := decide_eq_false (by omega)
    clear hl
    go_enter Tryz.func100, Tryz.ntmps100
    go_wp2_with fail
    go_ret
    exact ⟨rfl, rfl⟩

end Go.Proofs.YtdpjnpjmokncdaaGreatDoor

/- edit: notes and versions in memory; (Meta).right, (Meta).compare. -/
namespace Go.Proofs.YtdpjnpjmokncdaaGreatDoor
open Go.RowKit

/-- a note as it lies. -/
structure Mw where
  m : Mt
  A : Option Addr
  ca : Nat
  B : Option Addr
  cb : Nat
def Mw.cells (x : Mw) : List Value := [.int .i64 x.m.num, .int .i64 x.m.level, .int .i64 x.m.count, .slice x.A x.m.first.length x.ca, .slice x.B x.m.last.length x.cb]
def Mw.val (x : Mw) : Value := .agg #[.int .i64 x.m.num, .int .i64 x.m.level, .int .i64 x.m.count, .slice x.A x.m.first.length x.ca, .slice x.B x.m.last.length x.cb]
/-- its keys read. -/
structure MwOk (w : World) (x : Mw) : Prop where
  a : Rd w x.A x.m.first.length (by8 x.m.first)
  b : Rd w x.B x.m.last.length (by8 x.m.last)
  a1 : x.m.first.length ≤ x.ca ∧ x.ca ≤ 9223372036854775807
  b1 : x.m.last.length ≤ x.cb ∧ x.cb ≤ 9223372036854775807
theorem MwOk.mod0 {w w' : World} {x : Mw} (h : MwOk w x) (hm : Mod Non w w') : MwOk w' x := ⟨h.a.mod0 hm, h.b.mod0 hm, h.a1, h.b1⟩

set_option maxRecDepth 100000 in
set_option maxHeartbeats 2000000 in
theorem mtRight_any (x : Mw) (w : World) (h : MwOk w x) :
    Calls Tryz.prog 62 #[x.val] w fun e w' => e = .returned (.bool (mtRight x.m)) ∧ Mod Non w w' := by
  obtain ⟨⟨num, level, count, first, last⟩, A, ca, B, cb⟩ := x
  obtain ⟨ha, hb, ⟨ha1, ha2⟩, ⟨hb1, hb2⟩⟩ := h
  simp only at ha hb ha1 ha2 hb1 hb2
  unfold Mw.val
  simp only
  obtain ⟨n1, hn1⟩ : ∃ n1, first.length = n1 := ⟨_, rfl⟩
  obtain ⟨n2, hn2⟩ : ∃ n2, last.length = n2 := ⟨_, rfl⟩
  rw [hn1] at ha ha1
  rw [hn2] at hb hb1
  obtain ⟨R, hR⟩ : ∃ R, mtRight ⟨num, level, count, first, last⟩ = R := ⟨_, rfl⟩
  rw [hR, hn1, hn2]
  have HR := Lib.hid hR
  have HN1 := Lib.hid hn1
  have HN2 := Lib.hid hn2
  have HA := Lib.hid ha
  have HB := Lib.hid hb
  obtain ⟨b1, hb1e⟩ : ∃ b, inN num = b := ⟨_, rfl⟩
  obtain ⟨b2, hb2e⟩ : ∃ b, isKeyB first = b := ⟨_, rfl⟩
  obtain ⟨b3, hb3e⟩ : ∃ b, isKeyB last = b := ⟨_, rfl⟩
  obtain ⟨b4, hb4e⟩ : ∃ b, lessB last first = b := ⟨_, rfl⟩
  have HB1 := Lib.hid hb1e
  have HB2 := Lib.hid hb2e
  have HB3 := Lib.hid hb3e
  have HB4 := Lib.hid hb4e
  have hMA : Mod Non w (w.alloc (.cells #[.int .i64 num, .int .i64 level, .int .i64 count, .slice A n1 ca, .slice B n2 cb] 95)) := (Mod.refl Non w).alloc _
  have HMA := Lib.hid hMA
  clear hR hn1 hn2 ha hb hb1e hb2e hb3e hb4e hMA
  cases b1 with
  | false =>
    go_enter Tryz.func62, Tryz.ntmps62
    go_wp2_with (first
        | (go_at_call 61
           refine (inN_any num _).mono ?_
           rw [HB1.out]
           rintro e w1 ⟨rfl, rfl⟩)
        | (go_at_call 100
           (with_reducible refine (isKey_any A n1 ca first HN1.out _).mono ?_)
           rw [HB2.out]
           rintro e w1 ⟨rfl, rfl⟩)
        | (go_at_call 100
           (with_reducible refine (isKey_any B n2 cb last HN2.out _).mono ?_)
           rw [HB3.out]
           rintro e w1 ⟨rfl, rfl⟩)
        | (go_at_call 64
           refine (less_any B A n2 n1 cb ca last first _ (HB.out.mod0 HMA.out) (HA.out.mod0 HMA.out)).mono ?_
           rw [HB4.out]
           rintro e w1 ⟨rfl, rfl⟩))
    go_ret
    exact ⟨by rw [← HR.out]; unfold mtRight; rw [HB1.out, HB2.out, HB3.out, HB4.out]; simp [*], HMA.out⟩
  | true =>
    by_cases q1 : 0 ≤ level
    · have q1d : decide (0 ≤ level) = true := decide_eq_true q1
      by_cases q2 : level ≤ 3
      · have q2d : decide (level ≤ 3) = true := decide_eq_true q2
        by_cases q3 : 1 ≤ count
        · have q3d : decide (1 ≤ count) = true := decide_eq_true q3
          by_cases q4 : count ≤ 64
          · have q4d : decide (count ≤ 64) = true := decide_eq_true q4
            cases b2 with
            | false =>
              go_enter Tryz.func62, Tryz.ntmps62
              go_wp2_with (first
                  | (go_at_call 61
                     refine (inN_any num _).mono ?_
                     rw [HB1.out]
                     rintro e w1 ⟨rfl, rfl⟩)
                  | (go_at_call 100
                     (with_reducible refine (isKey_any A n1 ca first HN1.out _).mono ?_)
                     rw [HB2.out]
                     rintro e w1 ⟨rfl, rfl⟩)
                  | (go_at_call 100
                     (with_reducible refine (isKey_any B n2 cb last HN2.out _).mono ?_)
                     rw [HB3.out]
                     rintro e w1 ⟨rfl, rfl⟩)
                  | (go_at_call 64
                     refine (less_any B A n2 n1 cb ca last first _ (HB.out.mod0 HMA.out) (HA.out.mod0 HMA.out)).mono ?_
                     rw [HB4.out]
                     rintro e w1 ⟨rfl, rfl⟩))
              go_ret
              exact ⟨by rw [← HR.out]; unfold mtRight; rw [HB1.out, HB2.out, HB3.out, HB4.out]; simp [*], HMA.out⟩
            | true =>
              cases b3 with
              | false =>
                go_enter Tryz.func62, Tryz.ntmps62
                go_wp2_with (first
                    | (go_at_call 61
                       refine (inN_any num _).mono ?_
                       rw [HB1.out]
                       rintro e w1 ⟨rfl, rfl⟩)
                    | (go_at_call 100
                       (with_reducible refine (isKey_any A n1 ca first HN1.out _).mono ?_)
                       rw [HB2.out]
                       rintro e w1 ⟨rfl, rfl⟩)
                    | (go_at_call 100
                       (with_reducible refine (isKey_any B n2 cb last HN2.out _).mono ?_)
                       rw [HB3.out]
                       rintro e w1 ⟨rfl, rfl⟩)
                    | (go_at_call 64
                       refine (less_any B A n2 n1 cb ca last first _ (HB.out.mod0 HMA.out) (HA.out.mod0 HMA.out)).mono ?_
                       rw [HB4.out]
                       rintro e w1 ⟨rfl, rfl⟩))
                go_ret
                exact ⟨by rw [← HR.out]; unfold mtRight; rw [HB1.out, HB2.out, HB3.out, HB4.out]; simp [*], HMA.out⟩
              | true =>
                cases b4 with
                | false =>
                  go_enter Tryz.func62, Tryz.ntmps62
                  go_wp2_with (first
                      | (go_at_call 61
                         refine (inN_any num _).mono ?_
                         rw [HB1.out]
                         rintro e w1 ⟨rfl, rfl⟩)
                      | (go_at_call 100
                         (with_reducible refine (isKey_any A n1 ca first HN1.out _).mono ?_)
                         rw [HB2.out]
                         rintro e w1 ⟨rfl, rfl⟩)
                      | (go_at_call 100
                         (with_reducible refine (isKey_any B n2 cb last HN2.out _).mono ?_)
                         rw [HB3.out]
                         rintro e w1 ⟨rfl, rfl⟩)
                      | (go_at_call 64
                         refine (less_any B A n2 n1 cb ca last first _ (HB.out.mod0 HMA.out) (HA.out.mod0 HMA.out)).mono ?_
                         rw [HB4.out]
                         rintro e w1 ⟨rfl, rfl⟩))
                  go_ret
                  exact ⟨by rw [← HR.out]; unfold mtRight; rw [HB1.out, HB2.out, HB3.out, HB4.out]; simp [*], HMA.out⟩
                | true =>
                  go_enter Tryz.func62, Tryz.ntmps62
                  go_wp2_with (first
                      | (go_at_call 61
                         refine (inN_any num _).mono ?_
                         rw [HB1.out]
                         rintro e w1 ⟨rfl, rfl⟩)
                      | (go_at_call 100
                         (with_reducible refine (isKey_any A n1 ca first HN1.out _).mono ?_)
                         rw [HB2.out]
                         rintro e w1 ⟨rfl, rfl⟩)
                      | (go_at_call 100
                         (with_reducible refine (isKey_any B n2 cb last HN2.out _).mono ?_)
                         rw [HB3.out]
                         rintro e w1 ⟨rfl, rfl⟩)
                      | (go_at_call 64
                         refine (less_any B A n2 n1 cb ca last first _ (HB.out.mod0 HMA.out) (HA.out.mod0 HMA.out)).mono ?_
                         rw [HB4.out]
                         rintro e w1 ⟨rfl, rfl⟩))
                  go_ret
                  exact ⟨by rw [← HR.out]; unfold mtRight; rw [HB1.out, HB2.out, HB3.out, HB4.out]; simp [*], HMA.out⟩
          · have q4d : decide (count ≤ 64) = false := decide_eq_false q4
            go_enter Tryz.func62, Tryz.ntmps62
            go_wp2_with (first
                | (go_at_call 61
                   refine (inN_any num _).mono ?_
                   rw [HB1.out]
                   rintro e w1 ⟨rfl, rfl⟩)
                | (go_at_call 100
                   (with_reducible refine (isKey_any A n1 ca first HN1.out _).mono ?_)
                   rw [HB2.out]
                   rintro e w1 ⟨rfl, rfl⟩)
                | (go_at_call 100
                   (with_reducible refine (isKey_any B n2 cb last HN2.out _).mono ?_)
                   rw [HB3.out]
                   rintro e w1 ⟨rfl, rfl⟩)
                | (go_at_call 64
                   refine (less_any B A n2 n1 cb ca last first _ (HB.out.mod0 HMA.out) (HA.out.mod0 HMA.out)).mono ?_
                   rw [HB4.out]
                   rintro e w1 ⟨rfl, rfl⟩))
            go_ret
            exact ⟨by rw [← HR.out]; unfold mtRight; rw [HB1.out, HB2.out, HB3.out, HB4.out]; simp [*], HMA.out⟩
        · have q3d : decide (1 ≤ count) = false := decide_eq_false q3
          go_enter Tryz.func62, Tryz.ntmps62
          go_wp2_with (first
              | (go_at_call 61
                 refine (inN_any num _).mono ?_
                 rw [HB1.out]
                 rintro e w1 ⟨rfl, rfl⟩)
              | (go_at_call 100
                 (with_reducible refine (isKey_any A n1 ca first HN1.out _).mono ?_)
                 rw [HB2.out]
                 rintro e w1 ⟨rfl, rfl⟩)
              | (go_at_call 100
                 (with_reducible refine (isKey_any B n2 cb last HN2.out _).mono ?_)
                 rw [HB3.out]
                 rintro e w1 ⟨rfl, rfl⟩)
              | (go_at_call 64
                 refine (less_any B A n2 n1 cb ca last first _ (HB.out.mod0 HMA.out) (HA.out.mod0 HMA.out)).mono ?_
                 rw [HB4.out]
                 rintro e w1 ⟨rfl, rfl⟩))
          go_ret
          exact ⟨by rw [← HR.out]; unfold mtRight; rw [HB1.out, HB2.out, HB3.out, HB4.out]; simp [*], HMA.out⟩
      · have q2d : decide (level ≤ 3) = false := decide_eq_false q2
        go_enter Tryz.func62, Tryz.ntmps62
        go_wp2_with (first
            | (go_at_call 61
               refine (inN_any num _).mono ?_
               rw [HB1.out]
               rintro e w1 ⟨rfl, rfl⟩)
            | (go_at_call 100
               (with_reducible refine (isKey_any A n1 ca first HN1.out _).mono ?_)
               rw [HB2.out]
               rintro e w1 ⟨rfl, rfl⟩)
            | (go_at_call 100
               (with_reducible refine (isKey_any B n2 cb last HN2.out _).mono ?_)
               rw [HB3.out]
               rintro e w1 ⟨rfl, rfl⟩)
            | (go_at_call 64
               refine (less_any B A n2 n1 cb ca last first _ (HB.out.mod0 HMA.out) (HA.out.mod0 HMA.out)).mono ?_
               rw [HB4.out]
               rintro e w1 ⟨rfl, rfl⟩))
        go_ret
        exact ⟨by rw [← HR.out]; unfold mtRight; rw [HB1.out, HB2.out, HB3.out, HB4.out]; simp [*], HMA.out⟩
    · have q1d : decide (0 ≤ level) = false := decide_eq_false q1
      go_enter Tryz.func62, Tryz.ntmps62
      go_wp2_with (first
          | (go_at_call 61
             refine (inN_any num _).mono ?_
             rw [HB1.out]
             rintro e w1 ⟨rfl, rfl⟩)
          | (go_at_call 100
             (with_reducible refine (isKey_any A n1 ca first HN1.out _).mono ?_)
             rw [HB2.out]
             rintro e w1 ⟨rfl, rfl⟩)
          | (go_at_call 100
             (with_reducible refine (isKey_any B n2 cb last HN2.out _).mono ?_)
             rw [HB3.out]
             rintro e w1 ⟨rfl, rfl⟩)
          | (go_at_call 64
             refine (less_any B A n2 n1 cb ca last first _ (HB.out.mod0 HMA.out) (HA.out.mod0 HMA.out)).mono ?_
             rw [HB4.out]
             rintro e w1 ⟨rfl, rfl⟩))
      go_ret
      exact ⟨by rw [← HR.out]; unfold mtRight; rw [HB1.out, HB2.out, HB3.out, HB4.out]; simp [*], HMA.out⟩

def cmpM (a b : Mt) : Int := if cmpI a.level b.level ≠ 0 ∨ 0 < a.level then (if cmpI a.level b.level ≠ 0 then cmpI a.level b.level else Lib.compareBytes a.first b.first) else cmpI b.num a.num
theorem cmpI_lt (x y : Int) : cmpI x y < 0 ↔ x < y := by unfold cmpI; split <;> (try split) <;> omega
theorem cmpI_zero (x y : Int) : cmpI x y = 0 ↔ x = y := by unfold cmpI; split <;> (try split) <;> omega
theorem cmpM_lt (a b : Mt) : decide (cmpM a b < 0) = aheadB a b := by
  unfold cmpM aheadB
  by_cases h1 : a.level < b.level
  · have hc : cmpI a.level b.level = -1 := by unfold cmpI; rw [if_pos h1]
    simp [hc, h1]
  · by_cases h2 : b.level < a.level
    · have hc : cmpI a.level b.level = 1 := by unfold cmpI; rw [if_neg h1, if_pos h2]
      simp [hc, h1, h2]
    · have hc : cmpI a.level b.level = 0 := by rw [cmpI_zero]; omega
      rw [if_neg h1, if_neg h2]
      by_cases h3 : 0 < a.level
      · simp [hc, h3, lessB, less_iff]
      · simp [hc, h3, cmpI_lt]

/-- cmp.Or of two. -/
theorem rd_two_int (w : World) (t : TypeId) (x y : Int) : Rd (w.alloc (.cells #[.int .i64 x, .int .i64 y] t)) (some ⟨w.heap.size, 0, none⟩) 2 ([x, y].map (Value.int .i64)) := by
  refine ⟨rfl, fun _ => ⟨w.heap.size, 0, rfl, fun j u hu => ?_⟩⟩
  match j, hu with
  | 0, hu => simp only [List.map_cons, List.getElem?_cons_zero, Option.some.injEq] at hu; subst hu; simp
  | 1, hu => simp only [List.map_cons, List.getElem?_cons_succ, List.getElem?_cons_zero, Option.some.injEq] at hu; subst hu; simp
set_option maxRecDepth 100000 in
set_option maxHeartbeats 400000 in
theorem or_two (A : Option Addr) (c : Nat) (x y : Int) (w : World) (h : Rd w A 2 ([x, y].map (Value.int .i64))) :
    Calls Tryz.prog 102 #[.slice A 2 c] w fun e w' => e = .returned (.int .i64 (if x ≠ 0 then x else y)) ∧ w = w' := by
  obtain ⟨b, o, rfl, hc⟩ := h.2 (by omega)
  have h0 : w.cell? ⟨b, o, none⟩ = some (.int .i64 x) := hc 0 _ rfl
  have h1 : w.cell? ⟨b, o + 1, none⟩ = some (.int .i64 y) := hc 1 _ rfl
  have H0 := Lib.hid h0
  have H1 := Lib.hid h1
  obtain ⟨R, hR⟩ : ∃ R, (if x ≠ 0 then x else y) = R := ⟨_, rfl⟩
  rw [hR]
  have HR := Lib.hid hR
  clear h0 h1 hc h hR
  go_enter Tryz.func102, Tryz.ntmps102
  go_wp2_with fail
  go_loop [8] (fun i => ∃ k : Nat, k ≤ 2 ∧ i = .int .i64 k ∧ Hid ((0 < k → x = 0) ∧ (1 < k → y = 0))) (fun i => 2 - (intOf i).toNat)
  case atStart => exact ⟨0, by omega, rfl, by omega, by omega⟩
  case round =>
    obtain ⟨k, hk, rfl, HK⟩ := hrel
    match k, hk with
    | 0, _ =>
      have c0 := H0.out
      by_cases hx : x = 0
      · subst hx
        go_wp2_with fail
        go_round
        case rel => exact ⟨1, by omega, rfl, by (constructor <;> intros <;> first | rfl | trivial | omega)⟩
        case measure => simp [intOf]
      · have hz : (x != 0) = true := by simp [hx]
        have HX := Lib.hid hx
        clear hx
        go_wp2_with fail
        go_ret
        exact ⟨by rw [← HR.out, if_pos HX.out]; rfl, rfl⟩
    | 1, _ =>
      have c1 := H1.out
      have hx0 := HK.out.1 (by omega)
      by_cases hy : y = 0
      · subst hy
        have HX0 := Lib.hid hx0
        clear hx0
        go_wp2_with fail
        go_round
        case rel => exact ⟨2, by omega, rfl, by (constructor <;> intros <;> first | rfl | trivial | exact HX0.out)⟩
        case measure => simp [intOf]
      · have hz : (y != 0) = true := by simp [hy]
        have HX0 := Lib.hid hx0
        clear hy hx0
        go_wp2_with fail
        go_ret
        exact ⟨by rw [← HR.out, if_neg (by rw [HX0.out]; simp)]; rfl, rfl⟩
    | 2, _ =>
      have HX0 := Lib.hid (HK.out.1 (by omega))
      have HY0 := Lib.hid (HK.out.2 (by omega))
      go_wp2_with fail
      go_ret
      exact ⟨by rw [← HR.out, HX0.out, HY0.out]; rfl, rfl⟩

set_option maxRecDepth 100000 in
set_option maxHeartbeats 2000000 in
theorem mtCompare_any (x y : Mw) (w : World) (h : MwOk w x) (g : MwOk w y) :
    Calls Tryz.prog 63 #[x.val, y.val] w fun e w' => e = .returned (.int .i64 (cmpM x.m y.m)) ∧ Mod Non w w' := by
  obtain ⟨⟨num, level, count, first, last⟩, A, ca, B, cb⟩ := x
  obtain ⟨⟨num2, level2, count2, first2, last2⟩, A2, ca2, B2, cb2⟩ := y
  have ha := h.a
  have ha2 := g.a
  simp only at ha ha2
  obtain ⟨R, hR⟩ : ∃ R, cmpM ⟨num, level, count, first, last⟩ ⟨num2, level2, count2, first2, last2⟩ = R := ⟨_, rfl⟩
  unfold Mw.val
  simp only
  rw [hR]
  obtain ⟨n1, hn1⟩ : ∃ n1, first.length = n1 := ⟨_, rfl⟩
  obtain ⟨n2, hn2⟩ : ∃ n2, last.length = n2 := ⟨_, rfl⟩
  obtain ⟨n3, hn3⟩ : ∃ n3, first2.length = n3 := ⟨_, rfl⟩
  obtain ⟨n4, hn4⟩ : ∃ n4, last2.length = n4 := ⟨_, rfl⟩
  rw [hn1] at ha
  rw [hn3] at ha2
  rw [hn1, hn2, hn3, hn4]
  obtain ⟨cl, hcl⟩ : ∃ cl, cmpI level level2 = cl := ⟨_, rfl⟩
  have HCL := Lib.hid hcl
  have HR := Lib.hid hR
  have HA := Lib.hid ha
  have HA2 := Lib.hid ha2
  have hMA : Mod Non w ((w.alloc (.cells #[.int .i64 num, .int .i64 level, .int .i64 count, .slice A n1 ca, .slice B n2 cb] 95)).alloc (.cells #[.int .i64 num2, .int .i64 level2, .int .i64 count2, .slice A2 n3 ca2, .slice B2 n4 cb2] 95)) := ((Mod.refl Non w).alloc _).alloc _
  have HMA := Lib.hid hMA
  have hcase : (cl ≠ 0 ∨ 0 < level) ∨ (cl = 0 ∧ ¬ 0 < level) := by
    by_cases h1 : cl = 0
    · by_cases h2 : 0 < level
      · exact .inl (.inr h2)
      · exact .inr ⟨h1, h2⟩
    · exact .inl (.inl h1)
  clear hcl hR ha ha2 hn1 hn2 hn3 hn4 hMA h g
  rcases hcase with hc | ⟨hc1, hc2⟩
  · have hR2 : Hid (R = if cl ≠ 0 then cl else Lib.compareBytes first first2) := by
      show _ = _
      rw [← HR.out]; unfold cmpM; simp only; rw [HCL.out, if_pos hc]
    have HC := Lib.hid hc
    obtain ⟨cb9, hcb⟩ : ∃ c, Lib.compareBytes first first2 = c := ⟨_, rfl⟩
    have HCB := Lib.hid hcb
    obtain ⟨ov, hov⟩ : ∃ ov, (if cl ≠ 0 then cl else cb9) = ov := ⟨_, rfl⟩
    have HOV := Lib.hid hov
    have hrd := rd_two_int ((w.alloc (.cells #[.int .i64 num, .int .i64 level, .int .i64 count, .slice A n1 ca, .slice B n2 cb] 95)).alloc (.cells #[.int .i64 num2, .int .i64 level2, .int .i64 count2, .slice A2 n3 ca2, .slice B2 n4 cb2] 95)) 3 cl cb9
    rw [World.size_alloc, World.size_alloc] at hrd
    have HRD := Lib.hid hrd
    have hone : ∃ b, (cl != 0) = b := ⟨_, rfl⟩
    obtain ⟨b, hb⟩ := hone
    clear hc hcb hrd hov
    cases b with
    | true =>
      go_enter Tryz.func63, Tryz.ntmps63
      go_wp2_with (first
        | (go_at_call 101
           refine (cmpInt_any level level2 _).mono ?_
           rw [HCL.out]
           rintro e w1 ⟨rfl, rfl⟩)
        | (go_at_call 103
           refine (compare_any A A2 n1 n3 ca ca2 first first2 _ (HA.out.mod0 HMA.out) (HA2.out.mod0 HMA.out)).mono ?_
           rw [HCB.out]
           rintro e w1 ⟨rfl, rfl⟩)
        | (go_at_call 102
           refine (or_two _ _ cl cb9 _ HRD.out).mono ?_
           rw [HOV.out]
           rintro e w1 ⟨rfl, rfl⟩))
      go_ret
      exact ⟨by rw [hR2.out, HCB.out, HOV.out]; rfl, HMA.out.alloc _⟩
    | false =>
      have hl0 : decide (0 < level) = true := decide_eq_true (HC.out.resolve_left (by simpa using hb))
      obtain rfl : cl = 0 := by simpa using hb
      go_enter Tryz.func63, Tryz.ntmps63
      go_wp2_with (first
        | (go_at_call 101
           refine (cmpInt_any level level2 _).mono ?_
           rw [HCL.out]
           rintro e w1 ⟨rfl, rfl⟩)
        | (go_at_call 103
           refine (compare_any A A2 n1 n3 ca ca2 first first2 _ (HA.out.mod0 HMA.out) (HA2.out.mod0 HMA.out)).mono ?_
           rw [HCB.out]
           rintro e w1 ⟨rfl, rfl⟩)
        | (go_at_call 102
           refine (or_two _ _ 0 cb9 _ HRD.out).mono ?_
           rw [HOV.out]
           rintro e w1 ⟨rfl, rfl⟩))
      go_ret
      exact ⟨by rw [hR2.out, HCB.out, HOV.out]; rfl, HMA.out.alloc _⟩
  · have hR2 : Hid (cmpI num2 num = R) := by
      show _ = _
      rw [← HR.out]; unfold cmpM; simp only; rw [HCL.out, if_neg (by rintro (h | h); exact h hc1; exact hc2 h)]
    subst hc1
    have hl0 : decide (0 < level) = false := decide_eq_false hc2
    go_enter Tryz.func63, Tryz.ntmps63
    go_wp2_with fail
    refine (cmpInt_any level level2 _).mono ?_
    rw [HCL.out]
    rintro e w1 ⟨rfl, rfl⟩
    go_wp2_with fail
    refine (cmpInt_any num2 num _).mono ?_
    rw [hR2.out]
    rintro e w1 ⟨rfl, rfl⟩
    go_wp2_with fail
    go_ret
    exact ⟨rfl, HMA.out⟩

end Go.Proofs.YtdpjnpjmokncdaaGreatDoor
