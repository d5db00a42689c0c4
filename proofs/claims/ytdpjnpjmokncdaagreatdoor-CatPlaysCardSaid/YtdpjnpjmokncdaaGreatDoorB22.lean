/- code.TakeNum. -/
import Derived.Test.YtdpjnpjmokncdaaGreatDoorB09
import Derived.Deep.LoopGhost
namespace Go.Proofs.YtdpjnpjmokncdaaGreatDoor
open Go.RowKit

def tnStep (k : Nat) (x : Int) (c : UInt8) : Int := bits BinOp.or IntKind.u64 x (IntKind.u64.wrap (((c.toNat % 128 : Nat) : Int) * 2 ^ (7 * k)))
def tnGo : List UInt8 → Nat → Int → Int × Nat
  | [], _, x => (x, 0)
  | c :: r, k, x => if k = 9 ∨ c.toNat = 0 ∧ 0 < k then (x, 0) else if c.toNat < 128 then (tnStep k x c, k + 1) else tnGo r (k + 1) (tnStep k x c)
def takeNum (l : List UInt8) : Option (Nat × List UInt8) :=
  if (tnGo l 0 0).2 = 0 ∨ 4611686018427387903 < (tnGo l 0 0).1 then none else some ((tnGo l 0 0).1.toNat, l.drop (tnGo l 0 0).2)

theorem and127 (c : UInt8) : bits BinOp.and IntKind.u8 (c.toNat : Int) 127 = ((c.toNat % 128 : Nat) : Int) := by
  have h : ∀ y : Fin 256, bits BinOp.and IntKind.u8 (y.val : Int) 127 = ((y.val % 128 : Nat) : Int) := by decide +kernel
  exact h ⟨c.toNat, c.toNat_lt⟩
theorem takeNum_none_of {l : List UInt8} {x : Int} (h : tnGo l 0 0 = (x, 0)) : takeNum l = none := by unfold takeNum; rw [h]; simp
theorem takeNum_none_big {l : List UInt8} {x : Int} {k : Nat} (h : tnGo l 0 0 = (x, k)) (hx : 4611686018427387903 < x) : takeNum l = none := by unfold takeNum; rw [h]; simp [hx]
theorem takeNum_some_of {l : List UInt8} {x : Int} {k : Nat} (h : tnGo l 0 0 = (x, k + 1)) (hx : x ≤ 4611686018427387903) : takeNum l = some (x.toNat, l.drop (k + 1)) := by
  unfold takeNum; rw [h]; simp; omega

/-- what TakeNum answers. -/
def TnPost (l : List UInt8) (w : World) (e : Ending) (w' : World) : Prop :=
  match takeNum l with
  | none => e = .returned (.tuple #[.int .i64 0, .slice none 0 0, .int .i64 2]) ∧ w = w'
  | some (m, rest) => ∃ A' c', e = .returned (.tuple #[.int .i64 (m : Nat), .slice A' rest.length c', .int .i64 0]) ∧ w'.ownsRow w.heap.size 5 1 (.slice A' rest.length c') rest.length (by8 rest) ∧ Below w.heap.size w w'
theorem tnPost_none {l : List UInt8} {w : World} (h : takeNum l = none) : TnPost l w (.returned (.tuple #[.int .i64 0, .slice none 0 0, .int .i64 2])) w := by unfold TnPost; rw [h]; exact ⟨rfl, rfl⟩
theorem tnPost_some {l rest : List UInt8} {w w' : World} {m : Int} {A' : Option Addr} {n c' : Nat} (h : takeNum l = some (m.toNat, rest)) (hm : 0 ≤ m) (hn : rest.length = n) (ho : w'.ownsRow w.heap.size 5 1 (.slice A' n c') n (by8 rest)) (hb : Below w.heap.size w w') :
    TnPost l w (.returned (.tuple #[.int .i64 m, .slice A' n c', .int .i64 0])) w' := by
  subst hn
  unfold TnPost; rw [h]; exact ⟨A', c', by rw [Int.toNat_of_nonneg hm], ho, hb⟩

set_option maxRecDepth 100000 in
set_option maxHeartbeats 1000000 in
theorem takeNum_any (A : Option Addr) (n c : Nat) (l : List UInt8) (w : World) (h : Rd w A n (by8 l)) (hnc : n ≤ c) (hn : n ≤ 140737488355328) (hcm : c ≤ 9223372036854775807) :
    Calls Tryz.prog 45 #[.slice A n c] w (TnPost l w) := by
  have hl : l.length = n := by simpa using h.1
  have HL := Lib.hid hl
  clear hl
  go_enter Tryz.func45, Tryz.ntmps45
  go_wp2
  go_step3
  go_wp2
  go_step3
  go_wp2
  go_loop [5, 6, 7, 8, 11] (fun z u a b i => ∃ (k : Nat) (x : Int), k ≤ n ∧ k ≤ 9 ∧ i = .int .i64 k ∧ z = .int .u64 x ∧ 0 ≤ x ∧ x < 18446744073709551616 ∧ u = .int .i64 0 ∧ Hid (tnGo l 0 0 = tnGo (l.drop k) k x)) (fun _ _ _ _ i => n - (intOf i).toNat)
  case atStart => exact ⟨0, 0, Nat.zero_le _, by omega, rfl, rfl, by omega, by omega, rfl, rfl⟩
  case round =>
    obtain ⟨k, x, hk, hk9, rfl, rfl, hx0, hx1, rfl, HT⟩ := hrel
    by_cases hlt : k < n
    · obtain ⟨b, o, cb, rfl, hcb, hc⟩ := h.byte hlt
      have HD : Hid (l.drop k = cb :: l.drop (k + 1)) := by
        obtain ⟨hk', e⟩ := List.getElem?_eq_some_iff.1 hcb
        show l.drop k = cb :: l.drop (k + 1)
        rw [List.drop_eq_getElem_cons hk', e]
      clear hcb
      have hb := cb.toNat_lt
      by_cases h9 : k = 9
      · have HN : Hid (takeNum l = none) := takeNum_none_of (HT.out.trans (by rw [HD.out, tnGo, if_pos (.inl h9)]))
        subst h9
        go_wp2
        all_goals (go_ret3; exact tnPost_none HN.out)
      · have h9' : ((k : Int) == 9) = false := by simp; omega
        by_cases h0 : (cb.toNat = 0 ∧ 0 < k)
        · have HN : Hid (takeNum l = none) := takeNum_none_of (HT.out.trans (by rw [HD.out, tnGo, if_pos (.inr h0)]))
          obtain ⟨h0a, h0b⟩ := h0
          have h0c : ((cb.toNat : Int) == 0) = true := by simp; omega
          clear h0a
          go_wp2
          all_goals (go_ret3; exact tnPost_none HN.out)
        · have HA := Lib.hid (and127 cb)
          have hmb : cb.toNat % 128 < 128 := by omega
          obtain ⟨y, hy⟩ : ∃ y, tnStep k x cb = y := ⟨_, rfl⟩
          have hyb : 0 ≤ y ∧ y < 18446744073709551616 := by rw [← hy]; exact bits_u64 _ _ _
          have HY := Lib.hid hy
          unfold tnStep at hy
          have hand := and127 cb
          generalize cb.toNat % 128 = m at *
          by_cases hm : cb.toNat < 128
          · have HR : Hid (tnGo l 0 0 = (y, k + 1)) := HT.out.trans (by rw [HD.out, tnGo, if_neg (by omega), if_pos hm, HY.out])
            have h1 : ((k : Int) + 1 == 0) = false := by simp; omega
            clear HT HD HY HA
            by_cases hyl : y ≤ 4611686018427387903
            · have HN : Hid (takeNum l = some (y.toNat, l.drop (k + 1))) := takeNum_some_of HR.out hyl
              have hcut := h.cut (k := k + 1) (cap := c) (by omega) hnc
              rw [← by8_drop] at hcut
              have hln : (l.drop (k + 1)).length = n - (k + 1) := by rw [List.length_drop, HL.out]
              have HLN := Lib.hid hln
              clear hln
              have hz : ((cb.toNat : Int) == 0) = false ∨ ((cb.toNat : Int) == 0) = true ∧ k ≤ 0 := by
                by_cases hz : cb.toNat = 0
                · exact .inr ⟨by simp; omega, by omega⟩
                · exact .inl (by simp; omega)
              have hy0 := hyb.1
              by_cases hcap : c = k + 1
              · have hnil : l.drop (k + 1) = [] := List.eq_nil_of_length_eq_zero (by rw [HLN.out]; omega)
                have HL0 : Hid (takeNum l = some (y.toNat, [])) := by
                  have := HN.out
                  rwa [hnil] at this
                subst hcap
                clear h0 hcut hnil
                rcases hz with h0c | ⟨h0c, hk0⟩
                all_goals
                  go_wp2_with (go_at_call 65; refine (clone_any _ 0 0 [] _ (Rd.nil _ _) (by omega)).mono ?_; rintro e w1 ⟨A1, c1, rfl, ho1, hb1⟩)
                  all_goals (go_ret3; exact tnPost_some HL0.out hy0 rfl ho1 hb1)
              · rw [if_neg hcap] at hcut
                have hcut' : Rd w (some ⟨b, o + (k + 1), none⟩) (n - (k + 1)) (by8 (l.drop (k + 1))) := hcut
                clear h0 hcut
                rcases hz with h0c | ⟨h0c, hk0⟩
                all_goals
                  go_wp2_with (go_at_call 65; refine (clone_any _ _ _ (l.drop (k + 1)) _ hcut' (by omega)).mono ?_; rintro e w1 ⟨A1, c1, rfl, ho1, hb1⟩)
                  all_goals (go_ret3; exact tnPost_some HN.out hy0 HLN.out ho1 hb1)
            · have HN : Hid (takeNum l = none) := takeNum_none_big HR.out (by omega)
              by_cases hz : cb.toNat = 0
              · have h0c : ((cb.toNat : Int) == 0) = true := by simp; omega
                have hk0 : k ≤ 0 := by omega
                clear hz
                go_wp2
                all_goals (go_ret3; exact tnPost_none HN.out)
              · have h0c : ((cb.toNat : Int) == 0) = false := by simp; omega
                clear h0 hz
                go_wp2
                all_goals (go_ret3; exact tnPost_none HN.out)
          · have HR : Hid (tnGo l 0 0 = tnGo (l.drop (k + 1)) (k + 1) y) := HT.out.trans (by rw [HD.out, tnGo, if_neg (by omega), if_neg hm, HY.out])
            have h0c : ((cb.toNat : Int) == 0) = false := by simp; omega
            clear HT HD HY HA h0
            go_wp2
            go_round
            case rel => exact ⟨k + 1, y, by omega, by omega, by go_num, rfl, by omega, by omega, rfl, HR⟩
            case measure => simp [intOf]; omega
    · obtain rfl : k = n := by omega
      have HN : Hid (takeNum l = none) := takeNum_none_of (HT.out.trans (by rw [List.drop_of_length_le (by rw [HL.out]; omega), tnGo]))
      go_wp2
      all_goals (go_ret3; exact tnPost_none HN.out)

end Go.Proofs.YtdpjnpjmokncdaaGreatDoor
