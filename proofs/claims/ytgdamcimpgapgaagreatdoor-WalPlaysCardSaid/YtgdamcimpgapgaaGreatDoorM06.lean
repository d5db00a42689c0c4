/- sawyerref05.Same. -/
import Derived.Test.YtgdamcimpgapgaaGreatDoorM05
import Derived.Laws.IdiomStrings
import Derived.Laws.BytesArg
import Derived.BigQuiet
import Derived.Deep.QuietTactic
namespace Go.Proofs.YtgdamcimpgapgaaGreatDoor
open Go.RowKit

theorem conv_str {P : Program} (w : World) (src dst e : TypeId) (A : Option Addr) (n c : Nat) (l : List UInt8) (hs : P.underlying src = some (.slice e)) (he : P.underlying e = some (.int .u8)) (hd : P.underlying dst = some .string)
    (h : Rd w A n (by8 l)) : (convert src dst (.slice A n c)).run P w = .ok (.string ⟨l.toArray⟩) w := by
  have hl : l.length = n := by simpa using h.1
  cases A with
  | none =>
    have : n = 0 := by
      rcases Nat.eq_zero_or_pos n with h0 | h0
      · exact h0
      · obtain ⟨_, _, h', _⟩ := h.2 h0; cases h'
    subst this
    obtain rfl := List.eq_nil_of_length_eq_zero hl
    exact run_convert_bytes_nil w src e hs he 0 c dst hd
  | some ad =>
    subst hl
    refine run_convert_bytes_back w src dst e ad c l hs he hd fun j hj => ?_
    obtain ⟨b, o, h1, h2⟩ := h.2 (by omega)
    cases h1
    have h3 := h2 j (b8 l[j]) (by rw [by8_get, List.getElem?_eq_getElem hj]; rfl)
    have : (⟨b, o, none⟩ : Addr).add j = ⟨b, o + j, none⟩ := by unfold Addr.add; split <;> simp_all
    rw [this]
    exact h3

theorem str_inj (l k : List UInt8) : (⟨l.toArray⟩ : ByteArray) = ⟨k.toArray⟩ ↔ l = k := by
  constructor
  · intro h
    have := congrArg (fun s : ByteArray => s.data.toList) h
    simpa using this
  · rintro rfl; rfl

/-- a slice of slices of bytes can be read. -/
def RdS (w : World) (A : Option Addr) (n : Nat) (xs : List Bs) : Prop := Rd w A n (xs.map Bs.val) ∧ ∀ x ∈ xs, Rd w x.A x.n (by8 x.l)
theorem RdS.at_ {w : World} {A : Option Addr} {n : Nat} {xs : List Bs} (h : RdS w A n xs) {k : Nat} (hk : k < n) :
    ∃ b o q, A = some ⟨b, o, none⟩ ∧ xs[k]? = some q ∧ w.cell? ⟨b, o + k, none⟩ = some q.val ∧ Rd w q.A q.n (by8 q.l) := by
  obtain ⟨b, o, rfl, u, hu, hc⟩ := h.1.at_ hk
  rw [List.getElem?_map] at hu
  cases hx : xs[k]? with
  | none => rw [hx] at hu; cases hu
  | some q =>
    rw [hx] at hu
    simp only [Option.map_some, Option.some.injEq] at hu
    subst hu
    exact ⟨b, o, q, rfl, rfl, hc, h.2 q (List.mem_of_getElem? hx)⟩
theorem RdS.mod0 {w w' : World} {A : Option Addr} {n : Nat} {xs : List Bs} (h : RdS w A n xs) (hm : Mod Non w w') : RdS w' A n xs := ⟨h.1.mod0 hm, fun x hx => (h.2 x hx).mod0 hm⟩

set_option maxRecDepth 100000 in
set_option maxHeartbeats 1000000 in
theorem same_any (A B : Option Addr) (n m c d : Nat) (xs ys : List Bs) (w : World) (hx : RdS w A n xs) (hy : RdS w B m ys) (hn : n ≤ 9223372036854775807) (hm : m ≤ 9223372036854775807) :
    Calls Tryz.prog 14 #[.slice A n c, .slice B m d] w fun e w' => e = .returned (.bool (decide (xs.map (·.l) = ys.map (·.l)))) ∧ Mod Non w w' := by
  have hlx : xs.length = n := by simpa using hx.1.1
  have hly : ys.length = m := by simpa using hy.1.1
  by_cases hnm : n = m
  · subst hnm
    have HLX := Lib.hid hlx
    have HLY := Lib.hid hly
    have HX := Lib.hid hx
    have HY := Lib.hid hy
    clear hlx hly hx hy
    go_enter Tryz.func14, Tryz.ntmps14
    go_wp2
    go_loopw [5] (fun i wr => ∃ k : Nat, k ≤ n ∧ i = .int .i64 k ∧ Mod Non w wr ∧ Hid ((xs.map (·.l)).take k = (ys.map (·.l)).take k)) (fun i _ => n - (intOf i).toNat)
    case atStart => exact ⟨0, Nat.zero_le _, rfl, Mod.refl _ _, rfl⟩
    case round =>
      obtain ⟨k, hk, rfl, hmod, HE⟩ := hrel
      have HM := Lib.hid hmod
      clear hmod
      by_cases hlt : k < n
      · obtain ⟨b, o, q, rfl, hq, hc, hr⟩ := (HX.out.mod0 HM.out).at_ hlt
        obtain ⟨b', o', q', rfl, hq', hc', hr'⟩ := (HY.out.mod0 HM.out).at_ hlt
        have HQ := Lib.hid hq
        have HQ' := Lib.hid hq'
        obtain ⟨qA, qn, qc, ql⟩ := q
        obtain ⟨qA', qn', qc', ql'⟩ := q'
        simp only [Bs.val] at hc hc' hr hr'
        have hcv := fun W (hW : Rd W qA qn (by8 ql)) => conv_str (P := Tryz.prog) W 31 9 5 qA qn qc ql Tryz.underlying31 Tryz.underlying5 Tryz.underlying9 hW
        have hcv' := fun W (hW : Rd W qA' qn' (by8 ql')) => conv_str (P := Tryz.prog) W 31 9 5 qA' qn' qc' ql' Tryz.underlying31 Tryz.underlying5 Tryz.underlying9 hW
        have h1 := fun j => hcv _ (hr.drewN j)
        have h2 := fun j => hcv' _ (hr'.drewN j)
        clear hcv hcv' hr hr' hq hq'
        have i1 : (0 : Int) ≤ (k : Int) := by omega
        have i2 : (k : Int) < (n : Int) := by omega
        by_cases he : ql = ql'
        · subst he
          go_wp2
          go_quiet (fail)
          go_wp2
          go_roundw
          case rel =>
            refine ⟨k + 1, by omega, by go_num, HM.out.drewN _, ?_⟩
            show (xs.map (·.l)).take (k + 1) = (ys.map (·.l)).take (k + 1)
            rw [take_snoc' _ k ql (by rw [List.getElem?_map, HQ.out]; rfl), take_snoc' (ys.map (·.l)) k ql (by rw [List.getElem?_map, HQ'.out]; rfl), HE.out]
          case measure => simp [intOf]; omega
        · have hs2 : (ql == ql') = false := beq_eq_false_iff_ne.2 he
          go_wp2
          go_quiet (fail)
          go_wp2
          go_ret
          have e0 : decide (xs.map (·.l) = ys.map (·.l)) = false := decide_eq_false fun e => by
            have e2 := congrArg (fun l => l[k]?) e
            simp only [List.getElem?_map, HQ.out, HQ'.out, Option.map_some, Option.some.injEq] at e2
            exact he e2
          exact ⟨by rw [e0]; rfl, HM.out.drewN _⟩
      · obtain rfl : k = n := by omega
        go_wp2
        go_ret
        have e0 : decide (xs.map (·.l) = ys.map (·.l)) = true := decide_eq_true (by
          have e := HE.out
          rwa [List.take_of_length_le (by simp [HLX.out]), List.take_of_length_le (by simp [HLY.out])] at e)
        exact ⟨by rw [e0]; rfl, HM.out⟩
  · have h1 : ((n : Int) == (m : Int)) = false := by simp; omega
    have h2 : ¬ ((n : Int) = (m : Int)) := by omega
    go_enter Tryz.func14, Tryz.ntmps14
    go_wp2
    go_ret
    have e0 : decide (xs.map (·.l) = ys.map (·.l)) = false := decide_eq_false fun e => by
      have := congrArg List.length e
      simp at this
      omega
    exact ⟨by rw [e0]; rfl, Mod.refl _ _⟩

end Go.Proofs.YtgdamcimpgapgaaGreatDoor
