/- slices.Concat at bytes; code.PutNum. -/
import Derived.Test.YtgdamcimpgapgaaGreatDoorCode3
namespace Go.Proofs.YtgdamcimpgapgaaGreatDoor
open Go.RowKit

/-- a slice of bytes as it lies. -/
structure Bs where
  A : Option Addr
  n : Nat
  c : Nat
  l : List UInt8
def Bs.val (b : Bs) : Value := .slice b.A b.n b.c
def flat : List Bs → List UInt8
  | [] => []
  | b :: r => b.l ++ flat r
theorem flat_append (p q : List Bs) : flat (p ++ q) = flat p ++ flat q := by
  induction p with
  | nil => rfl
  | cons b p ih => simp [flat, ih]
theorem take_snoc' {α : Type} (l : List α) (k : Nat) (c : α) (h : l[k]? = some c) : l.take (k + 1) = l.take k ++ [c] := by
  obtain ⟨hk, e⟩ := List.getElem?_eq_some_iff.1 h
  rw [List.take_succ_eq_append_getElem hk, e]
theorem flat_take_le (p : List Bs) (k : Nat) : (flat (p.take k)).length ≤ (flat p).length := by
  conv => rhs; rw [← List.take_append_drop k p, flat_append]
  simp

set_option maxRecDepth 100000 in
set_option maxHeartbeats 1000000 in
theorem concat_any (A : Option Addr) (n c : Nat) (p : List Bs) (w : World) (h : Rd w A n (p.map Bs.val)) (hp : ∀ b ∈ p, Rd w b.A b.n (by8 b.l)) (ht : (flat p).length ≤ 140737488355328) (hn : n ≤ 140737488355328) :
    Calls Tryz.prog 68 #[.slice A n c] w fun e w' => ∃ A' c', e = .returned (.slice A' (flat p).length c') ∧ w'.ownsRow w.heap.size 5 1 (.slice A' (flat p).length c') (flat p).length (by8 (flat p)) ∧ Below w.heap.size w w' := by
  have hl : p.length = n := by simpa using h.1
  have hround : ∀ k, k < n → ∃ b o q, A = some ⟨b, o, none⟩ ∧ p[k]? = some q ∧ w.cell? ⟨b, o + k, none⟩ = some q.val ∧ Rd w q.A q.n (by8 q.l) ∧ q.l.length = q.n ∧ flat (p.take (k + 1)) = flat (p.take k) ++ q.l := by
    intro k hk
    obtain ⟨b, o, rfl, u, hu, hc⟩ := h.at_ hk
    rw [List.getElem?_map] at hu
    cases hx : p[k]? with
    | none => rw [hx] at hu; cases hu
    | some q =>
      rw [hx] at hu
      simp only [Option.map_some, Option.some.injEq] at hu
      subst hu
      have hr := hp q (List.mem_of_getElem? hx)
      exact ⟨b, o, q, rfl, rfl, hc, hr, by simpa using hr.1, by rw [take_snoc' p k q hx, flat_append]; simp [flat]⟩
  have hle := fun k => Nat.le_trans (flat_take_le p k) ht
  go_enter Tryz.func68, Tryz.ntmps68
  go_wp2
  go_loop [3, 5, 11] (fun x s i => ∃ k : Nat, k ≤ n ∧ i = .int .i64 k ∧ x = .int .i64 ((flat (p.take k)).length : Nat)) (fun _ _ i => n - (intOf i).toNat)
  case atStart => exact ⟨0, Nat.zero_le _, rfl, rfl⟩
  case round =>
    obtain ⟨k, hk, rfl, rfl⟩ := hrel
    by_cases hlt : k < n
    · obtain ⟨b, o, q, rfl, hq, hc, hr, hlq, hf⟩ := hround k hlt
      have h1 := hle k
      have h2 := hle (k + 1)
      have hL : (flat (p.take (k + 1))).length = (flat (p.take k)).length + q.n := by rw [hf, List.length_append, hlq]
      clear hround hle hf hq hlq hr
      have HL := Lib.hid hL
      rw [hL] at h2
      clear hL
      generalize (flat (p.take k)).length = z at *
      cases q with | mk qA qn qc ql =>
      simp only [Bs.val] at hc h2 HL
      go_wp2
      go_round
      case rel => exact ⟨k + 1, by omega, by go_num, by rw [HL.out]; go_num⟩
      case measure => simp [intOf]; omega
    · obtain rfl : k = n := by omega
      have e0 : p.take k = p := List.take_of_length_le (by omega)
      rw [e0]
      clear e0
      go_wp2_with (go_at_call 99; refine (grow_any _ _ ht).mono ?_; rintro e w1 ⟨A1, c1, rfl, ho1, hb1⟩)
      go_loopw [6, 8, 27] (fun v s i wr => ∃ (j : Nat) (A' : Option Addr) (c' : Nat), j ≤ k ∧ i = .int .i64 j ∧ v = .slice A' (flat (p.take j)).length c' ∧ wr.ownsRow w.heap.size 5 1 (.slice A' (flat (p.take j)).length c') (flat (p.take j)).length (by8 (flat (p.take j))) ∧ Below w.heap.size w wr) (fun _ _ i _ => k - (intOf i).toNat)
      case atStart => exact ⟨0, A1, c1, Nat.zero_le _, rfl, rfl, ho1, hb1⟩
      case round =>
        obtain ⟨j, A', c', hj, rfl, rfl, ho, hb⟩ := hrel
        by_cases hjl : j < k
        · obtain ⟨b, o, q, rfl, hq, hc, hr, hlq, hf⟩ := hround j hjl
          have h2 := hle (j + 1)
          have hL : (flat (p.take (j + 1))).length = (flat (p.take j)).length + q.n := by rw [hf, List.length_append, hlq]
          have hc' : wr.cell? ⟨b, o + j, none⟩ = some q.val := (Mod.of_below (S := Non) hb).cell hc (fun h => h)
          have hr' := hr.mod0 (Mod.of_below hb)
          clear hround hle hc hr
          have HF := Lib.hid hf
          have HL := Lib.hid hL
          rw [hL] at h2
          have HB := Lib.hid hb
          have hsz := hb.size
          clear hf hL hlq hq
          generalize hz : (flat (p.take j)).length = z at *
          clear hz
          cases q with | mk qA qn qc ql =>
          simp only [Bs.val] at hc' h2 HL hr'
          simp only at HF
          go_wp2_with (at_builtin; refine wpList_app8 bt _ rfl (.tmp 31) (.tmp 32) rfl w.heap.size (.slice A' z c') z (flat (p.take j)) rfl ho _ qn qc ql rfl hr' (z + qn) rfl (flat (p.take (j + 1))) HF.out.symm h2 hsz ?_; intro A2 c2 w2 hc2 ho2 hg2 hat2)
          go_roundw
          case rel => exact ⟨j + 1, A2, c2, by omega, by go_num, by rw [HL.out], by rw [HL.out]; exact ho2, HB.out.grown hg2 hsz (fun i hi => (ho.lt i hi).1)⟩
          case measure => simp [intOf]; omega
        · obtain rfl : j = k := by omega
          have e0 : p.take j = p := List.take_of_length_le (by omega)
          rw [e0] at ho
          rw [e0]
          clear e0
          go_wp2
          go_ret
          exact ⟨A', c', rfl, ho, hb⟩

end Go.Proofs.YtgdamcimpgapgaaGreatDoor
