/- code.TakeNum. -/
import Derived.Test.YtgnpmmhpeianpaaGreatDoorB06
import Derived.Deep.LoopGhost
namespace Go.Proofs.YtgnpmmhpeianpaaGreatDoor
open Go.RowKit

def tnStep (k : Nat) (x : Int) (c : UInt8) : Int := bits BinOp.or IntKind.u64 x (IntKind.u64.wrap (((c.toNat % 128 : Nat) : Int) * 2 ^ (7 * k)))
def tnGo : List UInt8 → Nat → Int → Int × Nat
  | [], _, x => (x, 0)
  | c :: r, k, x => if k = 9 ∨ c.toNat = 0 ∧ 0 < k then (x, 0) else if c.toNat < 128 then (tnStep k x c, k + 1) else tnGo r (k + 1) (tnStep k x c)
def takeNum (l : List UInt8) : Option (Nat × List UInt8) :=
  if (tnGo l 0 0).2 = 0 ∨ 4611686018427387903 < (tnGo l 0 0).1 then none else some ((tnGo l 0 0).1.toNat, l.drop (tnGo l 0 0).2)

theorem and127 (c : UInt8) : bits BinOp.and IntKind.u8 (c.toNat : Int) 127 = ((c.toNat % 128 : Nat) : Int) := by
  have h : ∀ y : Fin 256, bits BinOp.and IntKind.u8 (y.val : Int) 127 = ((y.val % 128 : Nat) : Int) := by decide +kernel
  exact h ⟨c.toNat, c.toNat_lt⟩
theorem takeNum_none_of {l : List UInt8} {x : Int} (h : tnGo l 0 0 = (x, 0)) : takeNum l = none := by unfold takeNum; rw [h]; simp
theorem takeNum_none_big {l : List UInt8} {x : Int} {k : Nat} (h : tnGo l 0 0 = (x, k)) (hx : 4611686018427387903 < x) : takeNum l = none := by unfold takeNum; rw [h]; simp [hx]
theorem takeNum_some_of {l : List UInt8} {x : Int} {k : Nat} (h : tnGo l 0 0 = (x, k + 1)) (hx : x ≤ 4611686018427387903) : takeNum l = some (x.toNat, l.drop (k + 1)) := by
  unfold takeNum; rw [h]; simp; omega

/-- what TakeNum answers. -/
def TnPost (l : List UInt8) (w : World) (e : Ending) (w' : World) : Prop :=
  match takeNum l with
  | none => e = .returned (.tuple #[.int .i64 0, .slice none 0 0, .int .i64 2]) ∧ w = w'
  | some (m, rest) => ∃ A' c', e = .returned (.tuple #[.int .i64 (m : Nat), .slice A' rest.length c', .int .i64 0]) ∧ w'.ownsRow w.heap.size 5 1 (.slice A' rest.length c') rest.length (by8 rest) ∧ Below w.heap.size w w'
theorem tnPost_none {l : List UInt8} {w : World} (h : takeNum l = none) : TnPost l w (.returned (.tuple #[.int .i64 0, .slice none 0 0, .int .i64 2])) w := by unfold TnPost; rw [h]; exact ⟨rfl, rfl⟩
theorem tnPost_some {l rest : List UInt8} {w w' : World} {m : Int} {A' : Option Addr} {n c' : Nat} (h : takeNum l = some (m.toNat, rest)) (hm : 0 ≤ m) (hn : rest.length = n) (ho : w'.ownsRow w.heap.size 5 1 (.slice A' n c') n (by8 rest)) (hb : Below w.heap.size w w') :
    TnPost l w (.returned (.tuple #[.int .i64 m, .slice A' n c', .int .i64 0])) w' := by
  subst hn
  unfold TnPost; rw [h]; exact ⟨A', c', by rw [Int.toNat_of_nonneg hm], ho, hb⟩

set_option maxRecDepth 100000 in
set_option maxHeartbeats 1000000 in
theorem takeNum_any (A : Option Addr) (n c : Nat) (l : List UInt8) (w : World) (h : Rd w A n (by8 l)) (hnc : n ≤ c) (hn : n ≤ 140737488355328) (hcm : c ≤ 9223372036854775807) :
    Calls Tryz.prog 63 #[.slice A n c] w (TnPost l w) := by
  have hl : l.length = n := by simpa using h.1
  have HL := Lib.hid hl
  clear hl
  go_enter Tryz.func63, Tryz.ntmps63
  go_wp2
  go_step3
  go_wp2
  go_step3
  go_wp2
  go_loop [5, 6, 7, 8, 11] (fun z u a b i => ∃ (k : Nat) (x : Int), k ≤ n ∧ k ≤ 9 ∧ i = .int .i64 k ∧ z = .int .u64 x ∧ 0 ≤ x ∧ x < 18446744073709551616 ∧ u = .int .i64 0 ∧ Hid (tnGo l 0 0 = tnGo (l.drop k) k x)) (fun _ _ _ _ i => n - (intOf i).toNat)
  case atStart => exact ⟨0, 0, Nat.zero_le _, by omega, rfl, rfl, by omega, by omega, rfl, rfl⟩
  case round =>
    obtain ⟨k, x, hk, hk9, rfl, rfl, hx0, hx1, rfl, HT⟩ := hrel
    by_cases hlt : k < n
    · obtain ⟨b, o, cb, rfl, hcb, hc⟩ := h.byte hlt
      have HD : Hid (l.drop k = cb :: l.drop (k + 1)) := by
        obtain ⟨hk', e⟩ := List.getElem?_eq_some_iff.1 hcb
        show l.drop k = cb :: l.drop (k + 1)
        rw [List.drop_eq_getElem_cons hk', e]
      clear hcb
      have hb := cb.toNat_lt
      by_cases h9 : k = 9
      · have HN : Hid (takeNum l = none) := takeNum_none_of (HT.out.trans (by rw [HD.out, tnGo, if_pos (.inl h9)]))
        subst h9
        go_wp2
        all_goals (go_ret3; exact tnPost_none HN.out)
      · have h9' : ((k : Int) == 9) = false := by simp; omega
        by_cases h0 : (cb.toNat = 0 ∧ 0 < k)
        · have HN : Hid (takeNum l = none) := takeNum_none_of (HT.out.trans (by rw [HD.out, tnGo, if_pos (.inr h0)]))
          obtain ⟨h0a, h0b⟩ := h0
          have h0c : ((cb.toNat : Int) == 0) = true := by simp; omega
          clear h0a
          go_wp2
          all_goals (go_ret3; exact tnPost_none HN.out)
        · have HA := Lib.hid (and127 cb)
          have hmb : cb.toNat % 128 < 128 := by omega
          obtain ⟨y, hy⟩ : ∃ y, tnStep k x cb = y := ⟨_, rfl⟩
          have hyb : 0 ≤ y ∧ y < 18446744073709551616 := by rw [← hy]; exact bits_u64 _ _ _
          have HY := Lib.hid hy
          unfold tnStep at hy
          have hand := and127 cb
          generalize cb.toNat % 128 = m at *
          by_cases hm : cb.toNat < 128
          · have HR : Hid (tnGo l 0 0 = (y, k + 1)) := HT.out.trans (by rw [HD.out, tnGo, if_neg (by omega), if_pos hm, HY.out])
            have h1 : ((k : Int) + 1 == 0) = false := by simp; omega
            clear HT HD HY HA
            by_cases hyl : y ≤ 4611686018427387903
            · have HN : Hid (takeNum l = some (y.toNat, l.drop (k + 1))) := takeNum_some_of HR.out hyl
              have hcut := h.cut (k := k + 1) (cap := c) (by omega) hnc
              rw [← by8_drop] at hcut
              have hln : (l.drop (k + 1)).length = n - (k + 1) := by rw [List.length_drop, HL.out]
              have HLN := Lib.hid hln
              clear hln
              have hz : ((cb.toNat : Int) == 0) = false ∨ ((cb.toNat : Int) == 0) = true ∧ k ≤ 0 := by
                by_cases hz : cb.toNat = 0
                · exact .inr ⟨by simp; omega, by omega⟩
                · exact .inl (by simp; omega)
              have hy0 := hyb.1
              by_cases hcap : c = k + 1
              · have hnil : l.drop (k + 1) = [] := List.eq_nil_of_length_eq_zero (by rw [HLN.out]; omega)
                have HL0 : Hid (takeNum l = some (y.toNat, [])) := by
                  have := HN.out
                  rwa [hnil] at this
                subst hcap
                clear h0 hcut hnil
                rcases hz with h0c | ⟨h0c, hk0⟩
                all_goals
                  go_wp2_with (go_at_call 93; refine (clone_any _ 0 0 [] _ (Rd.nil _ _) (by omega)).mono ?_; rintro e w1 ⟨A1, c1, rfl, ho1, hb1⟩)
                  all_goals (go_ret3; exact tnPost_some HL0.out hy0 rfl ho1 hb1)
              · rw [if_neg hcap] at hcut
                have hcut' : Rd w (some ⟨b, o + (k + 1), none⟩) (n - (k + 1)) (by8 (l.drop (k + 1))) := hcut
                clear h0 hcut
                rcases hz with h0c | ⟨h0c, hk0⟩
                all_goals
                  go_wp2_with (go_at_call 93; refine (clone_any _ _ _ (l.drop (k + 1)) _ hcut' (by omega)).mono ?_; rintro e w1 ⟨A1, c1, rfl, ho1, hb1⟩)
                  all_goals (go_ret3; exact tnPost_some HN.out hy0 HLN.out ho1 hb1)
            · have HN : Hid (takeNum l = none) := takeNum_none_big HR.out (by omega)
              by_cases hz : cb.toNat = 0
              · have h0c : ((cb.toNat : Int) == 0) = true := by simp; omega
                have hk0 : k ≤ 0 := by omega
                clear hz
                go_wp2
                all_goals (go_ret3; exact tnPost_none HN.out)
              · have h0c : ((cb.toNat : Int) == 0) = false := by simp; omega
                clear h0 hz
                go_wp2
                all_goals (go_ret3; exact tnPost_none HN.out)
          · have HR : Hid (tnGo l 0 0 = tnGo (l.drop (k + 1)) (k + 1) y) := HT.out.trans (by rw [HD.out, tnGo, if_neg (by omega), if_neg hm, HY.out])
            have h0c : ((cb.toNat : Int) == 0) = false := by simp; omega
            clear HT HD HY HA h0
            go_wp2
            go_round
            case rel => exact ⟨k + 1, y, by omega, by omega, by go_num, rfl, by omega, by omega, rfl, HR⟩
            case measure => simp [intOf]; omega
    · obtain rfl : k = n := by omega
      have HN : Hid (takeNum l = none) := takeNum_none_of (HT.out.trans (by rw [List.drop_of_length_le (by rw [HL.out]; omega), tnGo]))
      go_wp2
      all_goals (go_ret3; exact tnPost_none HN.out)

end Go.Proofs.YtgnpmmhpeianpaaGreatDoor

/- rows: in, isTree, nums, take, the closures of numbers. -/
namespace Go.Proofs.YtgnpmmhpeianpaaGreatDoor
open Go.RowKit

set_option maxRecDepth 100000 in
set_option maxHeartbeats 400000 in
theorem in1_any (x : Int) (w : World) : Calls Tryz.prog 98 #[.int .i64 x] w fun e w' => e = .returned (.bool (!inN x)) ∧ w = w' := by
  by_cases h0 : x < 0
  · have hr : (!inN x) = true := by unfold inN; simp; omega
    rw [hr]
    clear hr
    have d0 : decide (x < 0) = true := decide_eq_true h0
    go_enter Tryz.func98, Tryz.ntmps98
    go_wp2_with fail
    go_ret
    exact ⟨rfl, rfl⟩
  · have d0 : decide (x < 0) = false := decide_eq_false h0
    obtain ⟨q, hq⟩ : ∃ q, decide (1099511627776 < x) = q := ⟨_, rfl⟩
    have hr : (!inN x) = q := by
      rw [← hq]; unfold inN
      by_cases h1 : 1099511627776 < x
      · rw [decide_eq_true h1, decide_eq_false (by omega)]; rfl
      · rw [decide_eq_false h1, decide_eq_true (by omega)]; rfl
    rw [hr]
    clear hr h0
    go_enter Tryz.func98, Tryz.ntmps98
    go_wp2_with fail
    go_ret
    exact ⟨rfl, rfl⟩

set_option maxRecDepth 100000 in
set_option maxHeartbeats 400000 in
theorem isTree_any (x : Int) (w : World) : Calls Tryz.prog 48 #[.int .i64 x] w fun e w' => e = .returned (.bool (decide (1 ≤ x ∧ x ≤ 64))) ∧ w = w' := by
  by_cases h0 : 1 ≤ x
  · have d0 : decide (1 ≤ x) = true := decide_eq_true h0
    obtain ⟨q, hq⟩ : ∃ q, decide (x ≤ 64) = q := ⟨_, rfl⟩
    have hr : decide (1 ≤ x ∧ x ≤ 64) = q := by rw [← hq]; simp [h0]
    rw [hr]
    clear hr h0
    go_enter Tryz.func48, Tryz.ntmps48
    go_wp2_with fail
    go_ret
    exact ⟨rfl, rfl⟩
  · have d0 : decide (1 ≤ x) = false := decide_eq_false h0
    have hr : decide (1 ≤ x ∧ x ≤ 64) = false := by simp [h0]
    rw [hr]
    clear hr
    go_enter Tryz.func48, Tryz.ntmps48
    go_wp2_with fail
    go_ret
    exact ⟨rfl, rfl⟩

/-- may all numbers be? -/
def inAll (xs : List Int) : Bool := xs.all inN

set_option maxRecDepth 100000 in
set_option maxHeartbeats 1000000 in
theorem idxIn_any (A : Option Addr) (n c : Nat) (xs : List Int) (w : World) (hr : Rd w A n (xs.map (Value.int .i64))) (hn : n ≤ 9223372036854775807) :
    Calls Tryz.prog 167 #[.slice A n c, .func (.func 98) #[] #[]] w fun e w' => ∃ i : Int, e = .returned (.int .i64 i) ∧ decide (0 ≤ i) = (!inAll xs) ∧ w = w' := by
  have hl : xs.length = n := by simpa using hr.1
  have HR := Lib.hid hr
  have HL := Lib.hid hl
  clear hr hl
  go_enter Tryz.func167, Tryz.ntmps167
  go_wp2_with fail
  go_loop [8] (fun i => ∃ (j : Nat), j ≤ n ∧ i = .int .i64 j ∧ Hid (∀ x ∈ xs.take j, inN x = true)) (fun i => n - (intOf i).toNat)
  case atStart => exact ⟨0, Nat.zero_le _, rfl, fun x hx => by simp at hx⟩
  case round =>
    obtain ⟨j, hj, rfl, HA⟩ := hrel
    by_cases hlt : j < n
    · obtain ⟨b, o, rfl, u, hu, hc⟩ := HR.out.at_ hlt
      rw [List.getElem?_map] at hu
      obtain ⟨x, hx, rfl⟩ := Option.map_eq_some_iff.1 hu
      have i1 : (0 : Int) ≤ (j : Int) := by omega
      have i2 : (j : Int) < (n : Int) := by omega
      have HX := Lib.hid hx
      have hcl := in1_any x w
      obtain ⟨q, hq⟩ : ∃ q, inN x = q := ⟨_, rfl⟩
      rw [hq] at hcl
      have HC := Lib.hid hcl
      have HQ := Lib.hid hq
      clear hu hx hq hcl
      cases q with
      | true =>
        go_wp2_with (go_at_call 98; refine HC.out.mono ?_; rintro e w1 ⟨rfl, rfl⟩)
        go_round
        case rel =>
          refine ⟨j + 1, by omega, by go_num, fun y hy => ?_⟩
          rw [List.take_add_one, List.mem_append] at hy
          rcases hy with hy | hy
          · exact HA.out y hy
          · rw [HX.out] at hy
            simp only [Option.toList_some, List.mem_singleton] at hy
            rw [hy]
            exact HQ.out
        case measure => simp [intOf]; omega
      | false =>
        go_wp2_with (go_at_call 98; refine HC.out.mono ?_; rintro e w1 ⟨rfl, rfl⟩)
        go_ret
        refine ⟨(j : Int), rfl, ?_, rfl⟩
        rw [decide_eq_true (by omega)]
        unfold inAll
        have : xs.all inN = false := by
          rw [List.all_eq_false]
          exact ⟨x, List.mem_of_getElem? HX.out, by rw [HQ.out]; simp⟩
        rw [this]
        rfl
    · obtain rfl : j = n := by omega
      go_wp2_with fail
      go_ret
      refine ⟨-1, rfl, ?_, rfl⟩
      have : inAll xs = true := by
        unfold inAll
        rw [List.all_eq_true]
        intro x hx
        exact HA.out x (by rw [List.take_of_length_le (by rw [HL.out]; omega)]; exact hx)
      rw [this]
      rfl

set_option maxRecDepth 100000 in
set_option maxHeartbeats 400000 in
theorem inR_rows (A : Option Addr) (n c : Nat) (xs : List Int) (w : World) (hr : Rd w A n (xs.map (Value.int .i64))) (hn : n ≤ 9223372036854775807) :
    Calls Tryz.prog 59 #[.slice A n c] w fun e w' => e = .returned (.bool (inAll xs)) ∧ w = w' := by
  have hcf : Calls Tryz.prog 97 #[.slice A n c, .func (.func 98) #[] #[]] w fun e w' => e = .returned (.bool (!inAll xs)) ∧ w = w' := by
    have HI := Lib.hid (idxIn_any A n c xs w hr hn)
    obtain ⟨q, hq⟩ : ∃ q, (!inAll xs) = q := ⟨_, rfl⟩
    rw [hq] at HI ⊢
    clear hr hq
    go_enter Tryz.func97, Tryz.ntmps97
    go_wp2_with (go_at_call 167; refine HI.out.mono ?_; rintro e w1 ⟨i, rfl, hi, rfl⟩)
    go_ret
    exact ⟨rfl, rfl⟩
  obtain ⟨q, hq⟩ : ∃ q, inAll xs = q := ⟨_, rfl⟩
  rw [hq] at hcf ⊢
  have HC := Lib.hid hcf
  clear hcf hr hq
  go_enter Tryz.func59, Tryz.ntmps59
  go_wp2_with (go_at_call 97; refine HC.out.mono ?_; rintro e w1 ⟨rfl, rfl⟩)
  go_ret
  exact ⟨by cases q <;> rfl, rfl⟩

set_option maxRecDepth 100000 in
set_option maxHeartbeats 1000000 in
theorem numsW_any (B : Option Addr) (m d : Nat) (xs : List Int) (w : World) (g : Rd w B m (xs.map (Value.int .i64))) (hm : m ≤ 1000) :
    Calls Tryz.prog 27 #[.slice B m d] w fun e w' => ∃ A' n' c', e = .returned (.slice A' n' c') ∧ n' = (nBs xs).length ∧ Rd w' A' n' (by8 (nBs xs)) ∧ n' ≤ c' ∧ c' ≤ 9223372036854775807 ∧ Mod Non w w' := by
  have hml : xs.length = m := by simpa using g.1
  obtain ⟨R, hR⟩ : ∃ R, nBs xs = R := ⟨_, rfl⟩
  rw [hR]
  have HR := Lib.hid hR
  have HML := Lib.hid hml
  have HG := Lib.hid g
  clear hR hml g
  go_enter Tryz.func27, Tryz.ntmps27
  go_wp2_with fail
  go_loopw [3, 8] (fun v i wr => ∃ (k q cq : Nat) (Aq : Option Addr) (dd : List UInt8), k ≤ m ∧ i = .int .i64 k ∧ v = .slice Aq q cq ∧ q ≤ cq ∧ cq ≤ 9223372036854775807 ∧ q ≤ 9 * k ∧ Hid (dd = nBs (xs.take k)) ∧ Hid (Rd wr Aq q (by8 dd)) ∧ Hid (Mod Non w wr)) (fun _ i _ => m - (intOf i).toNat)
  case atStart => exact ⟨0, 0, 0, none, [], Nat.zero_le _, rfl, rfl, Nat.le_refl _, by omega, by omega, by show _ = _; simp [nBs], Rd.nil _ _, Mod.refl _ _⟩
  case round =>
    obtain ⟨k, q, cq, Aq, dd, hk, rfl, rfl, hq1, hq2, hq3, HD, HRd, HM⟩ := hrel
    by_cases hlt : k < m
    · obtain ⟨b, o, rfl, u, hu, hc⟩ := (HG.out.mod0 HM.out).at_ hlt
      rw [List.getElem?_map] at hu
      obtain ⟨x, hx, rfl⟩ := Option.map_eq_some_iff.1 hu
      rename World => wr
      have hpn := putNum_any Aq q cq dd x wr HRd.out (by omega)
      have h9 := nB_len x
      obtain ⟨L, hL⟩ : ∃ L, nB x = L := ⟨_, rfl⟩
      have hL2 : numB (clampN x) = L := hL
      rw [hL2] at hpn
      rw [hL] at h9
      have HX : Hid (dd ++ L = nBs (xs.take (k + 1))) := by
        show _ = _
        rw [take_snoc' xs k x hx, nBs_snoc, HD.out, hL]
      have HPN := Lib.hid hpn
      have i1 : (0 : Int) ≤ (k : Int) := by omega
      have i2 : (k : Int) < (m : Int) := by omega
      clear hu hx hpn hL hL2
      go_wp2_with fail
      refine HPN.out.mono ?_
      rintro e w1 ⟨A1, c1, rfl, ho1, hb1⟩
      obtain ⟨A1', c1', he, hc1, hc2⟩ := own_slice ho1
      cases he
      have hr1 := Rd.of_own ho1
      have HR1 := Lib.hid hr1
      have HM1 := Lib.hid (HM.out.trans0 (Mod.of_below (S := Non) hb1))
      have hmx : maxLen = 9223372036854775807 := rfl
      have hc3 : c1 ≤ 9223372036854775807 := by omega
      clear hr1 ho1 hb1 hmx
      go_wp2_with fail
      go_roundw
      case rel => exact ⟨k + 1, q + L.length, c1, A1, dd ++ L, by omega, by go_num, rfl, hc1, hc3, by omega, HX.out, HR1.out, HM1.out⟩
      case measure => simp [intOf]; omega
    · obtain rfl : k = m := by omega
      have hfin : dd = R := by rw [HD.out, List.take_of_length_le (by rw [HML.out]; omega), HR.out]
      have hdl : dd.length = q := by simpa using HRd.out.1
      have HF := Lib.hid hfin
      have HDL := Lib.hid hdl
      clear hfin hdl
      go_wp2_with fail
      go_ret
      exact ⟨Aq, q, cq, rfl, by rw [← HF.out, HDL.out], by rw [← HF.out]; exact HRd.out, hq1, hq2, HM.out⟩

end Go.Proofs.YtgnpmmhpeianpaaGreatDoor

/- rows: isHash. -/
namespace Go.Proofs.YtgnpmmhpeianpaaGreatDoor
open Go.RowKit

/-- is a text 32 bytes? -/
def isH (s : ByteArray) : Bool := decide (s.size = 32)
def hashAll (xs : List ByteArray) : Bool := xs.all isH

set_option maxRecDepth 100000 in
set_option maxHeartbeats 400000 in
theorem isHash1_any (s : ByteArray) (w : World) : Calls Tryz.prog 92 #[.string s] w fun e w' => e = .returned (.bool (!isH s)) ∧ w = w' := by
  have hr : (!isH s) = ((s.size : Int) != 32) := by
    unfold isH
    by_cases h0 : s.size = 32
    · rw [h0]; rfl
    · rw [decide_eq_false h0]
      symm
      show _ = true
      rw [bne_iff_ne]
      omega
  rw [hr]
  clear hr
  go_enter Tryz.func92, Tryz.ntmps92
  go_wp2_with fail
  go_ret
  exact ⟨rfl, rfl⟩

set_option maxRecDepth 100000 in
set_option maxHeartbeats 1000000 in
theorem idxHash_any (A : Option Addr) (n c : Nat) (xs : List ByteArray) (w : World) (hr : Rd w A n (xs.map Value.string)) (hn : n ≤ 9223372036854775807) :
    Calls Tryz.prog 160 #[.slice A n c, .func (.func 92) #[] #[]] w fun e w' => ∃ i : Int, e = .returned (.int .i64 i) ∧ decide (0 ≤ i) = (!hashAll xs) ∧ w = w' := by
  have hl : xs.length = n := by simpa using hr.1
  have HR := Lib.hid hr
  have HL := Lib.hid hl
  clear hr hl
  go_enter Tryz.func160, Tryz.ntmps160
  go_wp2_with fail
  go_loop [8] (fun i => ∃ (j : Nat), j ≤ n ∧ i = .int .i64 j ∧ Hid (∀ x ∈ xs.take j, isH x = true)) (fun i => n - (intOf i).toNat)
  case atStart => exact ⟨0, Nat.zero_le _, rfl, fun x hx => by simp at hx⟩
  case round =>
    obtain ⟨j, hj, rfl, HA⟩ := hrel
    by_cases hlt : j < n
    · obtain ⟨b, o, rfl, u, hu, hc⟩ := HR.out.at_ hlt
      rw [List.getElem?_map] at hu
      obtain ⟨x, hx, rfl⟩ := Option.map_eq_some_iff.1 hu
      have i1 : (0 : Int) ≤ (j : Int) := by omega
      have i2 : (j : Int) < (n : Int) := by omega
      have HX := Lib.hid hx
      have hcl := isHash1_any x w
      obtain ⟨q, hq⟩ : ∃ q, isH x = q := ⟨_, rfl⟩
      rw [hq] at hcl
      have HC := Lib.hid hcl
      have HQ := Lib.hid hq
      clear hu hx hq hcl
      cases q with
      | true =>
        go_wp2_with (go_at_call 92; refine HC.out.mono ?_; rintro e w1 ⟨rfl, rfl⟩)
        go_round
        case rel =>
          refine ⟨j + 1, by omega, by go_num, fun y hy => ?_⟩
          rw [List.take_add_one, List.mem_append] at hy
          rcases hy with hy | hy
          · exact HA.out y hy
          · rw [HX.out] at hy
            simp only [Option.toList_some, List.mem_singleton] at hy
            rw [hy]
            exact HQ.out
        case measure => simp [intOf]; omega
      | false =>
        go_wp2_with (go_at_call 92; refine HC.out.mono ?_; rintro e w1 ⟨rfl, rfl⟩)
        go_ret
        refine ⟨(j : Int), rfl, ?_, rfl⟩
        rw [decide_eq_true (by omega)]
        unfold hashAll
        have : xs.all isH = false := by
          rw [List.all_eq_false]
          exact ⟨x, List.mem_of_getElem? HX.out, by rw [HQ.out]; simp⟩
        rw [this]
        rfl
    · obtain rfl : j = n := by omega
      go_wp2_with fail
      go_ret
      refine ⟨-1, rfl, ?_, rfl⟩
      have : hashAll xs = true := by
        unfold hashAll
        rw [List.all_eq_true]
        intro x hx
        exact HA.out x (by rw [List.take_of_length_le (by rw [HL.out]; omega)]; exact hx)
      rw [this]
      rfl

set_option maxRecDepth 100000 in
set_option maxHeartbeats 400000 in
theorem isHash_any (A : Option Addr) (n c : Nat) (xs : List ByteArray) (w : World) (hr : Rd w A n (xs.map Value.string)) (hn : n ≤ 9223372036854775807) :
    Calls Tryz.prog 53 #[.slice A n c] w fun e w' => e = .returned (.bool (hashAll xs)) ∧ w = w' := by
  have hcf : Calls Tryz.prog 91 #[.slice A n c, .func (.func 92) #[] #[]] w fun e w' => e = .returned (.bool (!hashAll xs)) ∧ w = w' := by
    have HI := Lib.hid (idxHash_any A n c xs w hr hn)
    obtain ⟨q, hq⟩ : ∃ q, (!hashAll xs) = q := ⟨_, rfl⟩
    rw [hq] at HI ⊢
    clear hr hq
    go_enter Tryz.func91, Tryz.ntmps91
    go_wp2_with (go_at_call 160; refine HI.out.mono ?_; rintro e w1 ⟨i, rfl, hi, rfl⟩)
    go_ret
    exact ⟨rfl, rfl⟩
  obtain ⟨q, hq⟩ : ∃ q, hashAll xs = q := ⟨_, rfl⟩
  rw [hq] at hcf ⊢
  have HC := Lib.hid hcf
  clear hcf hr hq
  go_enter Tryz.func53, Tryz.ntmps53
  go_wp2_with (go_at_call 91; refine HC.out.mono ?_; rintro e w1 ⟨rfl, rfl⟩)
  go_ret
  exact ⟨by cases q <;> rfl, rfl⟩

end Go.Proofs.YtgnpmmhpeianpaaGreatDoor

/- rows: nums, its answer in memory of its own. -/
namespace Go.Proofs.YtgnpmmhpeianpaaGreatDoor
open Go.RowKit

set_option maxRecDepth 100000 in
set_option maxHeartbeats 1000000 in
theorem numsO_any (B : Option Addr) (m d : Nat) (xs : List Int) (w : World) (g : Rd w B m (xs.map (Value.int .i64))) (hm : m ≤ 1000) :
    Calls Tryz.prog 27 #[.slice B m d] w fun e w' => ∃ A' n' c', e = .returned (.slice A' n' c') ∧ n' = (nBs xs).length ∧ w'.ownsRow w.heap.size 5 1 (.slice A' n' c') n' (by8 (nBs xs)) ∧ Below w.heap.size w w' := by
  have hml : xs.length = m := by simpa using g.1
  obtain ⟨R, hR⟩ : ∃ R, nBs xs = R := ⟨_, rfl⟩
  rw [hR]
  have HR := Lib.hid hR
  have HML := Lib.hid hml
  have HG := Lib.hid g
  clear hR hml g
  go_enter Tryz.func27, Tryz.ntmps27
  go_wp2_with fail
  go_loopw [3, 8] (fun v i wr => ∃ (k q cq : Nat) (Aq : Option Addr) (dd : List UInt8), k ≤ m ∧ i = .int .i64 k ∧ v = .slice Aq q cq ∧ q ≤ cq ∧ cq ≤ 9223372036854775807 ∧ q ≤ 9 * k ∧ Hid (dd = nBs (xs.take k)) ∧ Hid (wr.ownsRow w.heap.size 5 1 (.slice Aq q cq) q (by8 dd)) ∧ Hid (Below w.heap.size w wr)) (fun _ i _ => m - (intOf i).toNat)
  case atStart => exact ⟨0, 0, 0, none, [], Nat.zero_le _, rfl, rfl, Nat.le_refl _, by omega, by omega, by show _ = _; simp [nBs], ⟨rfl, .inl ⟨rfl, rfl⟩⟩, Below.refl _ _⟩
  case round =>
    obtain ⟨k, q, cq, Aq, dd, hk, rfl, rfl, hq1, hq2, hq3, HD, HRd, HM⟩ := hrel
    by_cases hlt : k < m
    · obtain ⟨b, o, rfl, u, hu, hc⟩ := (HG.out.mod0 (Mod.of_below HM.out)).at_ hlt
      rw [List.getElem?_map] at hu
      obtain ⟨x, hx, rfl⟩ := Option.map_eq_some_iff.1 hu
      rename World => wr
      have hpn := putNum_any Aq q cq dd x wr (Rd.of_own HRd.out) (by omega)
      have h9 := nB_len x
      obtain ⟨L, hL⟩ : ∃ L, nB x = L := ⟨_, rfl⟩
      have hL2 : numB (clampN x) = L := hL
      rw [hL2] at hpn
      rw [hL] at h9
      have HX : Hid (dd ++ L = nBs (xs.take (k + 1))) := by
        show _ = _
        rw [take_snoc' xs k x hx, nBs_snoc, HD.out, hL]
      have HPN := Lib.hid hpn
      have i1 : (0 : Int) ≤ (k : Int) := by omega
      have i2 : (k : Int) < (m : Int) := by omega
      clear hu hx hpn hL hL2
      go_wp2_with fail
      refine HPN.out.mono ?_
      rintro e w1 ⟨A1, c1, rfl, ho1, hb1⟩
      obtain ⟨A1', c1', he, hc1, hc2⟩ := own_slice ho1
      cases he
      have hr1 := own_mono ho1 HM.out.size
      have HR1 := Lib.hid hr1
      have HM1 := Lib.hid (HM.out.trans (hb1.mono HM.out.size))
      have hmx : maxLen = 9223372036854775807 := rfl
      have hc3 : c1 ≤ 9223372036854775807 := by omega
      clear hr1 ho1 hb1 hmx
      go_wp2_with fail
      go_roundw
      case rel => exact ⟨k + 1, q + L.length, c1, A1, dd ++ L, by omega, by go_num, rfl, hc1, hc3, by omega, HX.out, HR1.out, HM1.out⟩
      case measure => simp [intOf]; omega
    · obtain rfl : k = m := by omega
      have hfin : dd = R := by rw [HD.out, List.take_of_length_le (by rw [HML.out]; omega), HR.out]
      have hdl : dd.length = q := by simpa using (Rd.of_own HRd.out).1
      have HF := Lib.hid hfin
      have HDL := Lib.hid hdl
      clear hfin hdl
      go_wp2_with fail
      go_ret
      exact ⟨Aq, q, cq, rfl, by rw [← HF.out, HDL.out], by rw [← HF.out]; exact HRd.out, HM.out⟩

end Go.Proofs.YtgnpmmhpeianpaaGreatDoor
