/- sawyerref02.TakeText. -/
import Derived.Test.YtgnpmmhpeianpaaGreatDoorB25
import Derived.Test.YtgnpmmhpeianpaaGreatDoorB24
namespace Go.Proofs.YtgnpmmhpeianpaaGreatDoor
open Go.RowKit

set_option maxRecDepth 100000 in
set_option maxHeartbeats 1000000 in
theorem takeTextR_any (A : Option Addr) (n c : Nat) (l : List UInt8) (most : Int) (w : World) (h : Rd w A n (by8 l)) (hnc : n ≤ c) (hn : n ≤ 140737488351232) (hcm : c ≤ 9223372036854775807) :
    Calls Tryz.prog 38 #[.slice A n c, .int .i64 most] w (TtPost l most w) := by
  have ht := takeNumR_any A n c l w h hnc (by omega) hcm
  unfold TnqPost at ht
  have hll : l.length = n := by simpa using h.1
  cases htn : takeNum l with
  | none =>
    rw [htn] at ht
    have hp : takeText l most = none := by unfold takeText; rw [htn]
    have HT := Lib.hid ht
    have HP := Lib.hid hp
    clear ht htn hp h
    go_enter Tryz.func38, Tryz.ntmps38
    go_wp2_with fail
    refine HT.out.mono ?_
    rintro e w1 ⟨rfl, hb1⟩
    have HM := Lib.hid (Mod.of_below (S := Non) hb1)
    clear hb1
    go_wp2_with fail
    go_ret3
    unfold TtPost
    rw [HP.out]
    exact ⟨rfl, HM.out⟩
  | some p =>
    obtain ⟨m, rest⟩ := p
    rw [htn] at ht
    obtain ⟨hrl, hm62⟩ := takeNum_spec htn
    have HT := Lib.hid ht
    obtain ⟨q, hq⟩ : ∃ q, rest.length = q := ⟨_, rfl⟩
    rw [hq] at hrl
    have HQ := Lib.hid hq
    by_cases hbad : most < (m : Int) ∨ (q : Int) < (m : Int)
    · have hp : takeText l most = none := by unfold takeText; rw [htn]; simp only; rw [if_pos (by rw [hq]; exact hbad)]
      have HP := Lib.hid hp
      have hfin : ∀ w', Mod Non w w' → TtPost l most w (.returned (.tuple #[.string ⟨#[]⟩, .slice none 0 0, .int .i64 2])) w' := fun w' hw => by
        unfold TtPost
        rw [HP.out]
        exact ⟨rfl, hw⟩
      have HF := Lib.hid hfin
      clear ht htn hp h hq hfin
      by_cases h1 : most < (m : Int)
      · have d1 : decide (most < (m : Int)) = true := decide_eq_true h1
        go_enter Tryz.func38, Tryz.ntmps38
        go_wp2_with fail
        refine HT.out.mono ?_
        rintro e w1 ⟨A1, c1, rfl, ho1, hb1⟩
        have HM := Lib.hid (Mod.of_below (S := Non) hb1)
        clear ho1 hb1
        go_wp2_with fail
        go_ret3
        exact HF.out _ HM.out
      · have d1 : decide (most < (m : Int)) = false := decide_eq_false h1
        have d2 : decide ((q : Int) < (m : Int)) = true := decide_eq_true (hbad.resolve_left h1)
        have d2' : decide (q < m) = true := decide_eq_true (by have := hbad.resolve_left h1; omega)
        clear hbad h1
        go_enter Tryz.func38, Tryz.ntmps38
        go_wp2_with fail
        refine HT.out.mono ?_
        rw [HQ.out]
        rintro e w1 ⟨A1, c1, rfl, ho1, hb1⟩
        have HM := Lib.hid (Mod.of_below (S := Non) hb1)
        clear ho1 hb1
        go_wp2_with fail
        go_ret3
        exact HF.out _ HM.out
    · have hmq : m ≤ q := by omega
      have hmm : (m : Int) ≤ most := by omega
      have hp : takeText l most = some (rest.take m, rest.drop m) := by unfold takeText; rw [htn]; simp only; rw [if_neg (by rw [hq]; exact hbad)]
      have HP := Lib.hid hp
      have d1 : decide (most < (m : Int)) = false := decide_eq_false (by omega)
      have d2 : decide ((q : Int) < (m : Int)) = false := decide_eq_false (by omega)
      have d2' : decide (q < m) = false := decide_eq_false (by omega)
      clear ht htn hp h hq hbad
      go_enter Tryz.func38, Tryz.ntmps38
      go_wp2_with fail
      refine HT.out.mono ?_
      rw [HQ.out]
      rintro e w1 ⟨A1, c1, rfl, ho1, hb1⟩
      obtain ⟨A1', c1', he, hc1, hc2⟩ := own_slice ho1
      cases he
      have hr1 := Rd.of_own ho1
      have hbase := own_base ho1
      have hmx : maxLen = 9223372036854775807 := rfl
      have hcv : ∀ j, (convert 27 9 (.slice A1 m c1)).run Tryz.prog (w1.drewN j) = .ok (.string ⟨(rest.take m).toArray⟩) (w1.drewN j) := fun j =>
        conv_str (w1.drewN j) 27 9 5 A1 m c1 (rest.take m) Tryz.underlying27 Tryz.underlying5 Tryz.underlying9 (by rw [by8_take]; exact hr1.take hmq)
      have hcut := hr1.cut (cap := c1) hmq hc1
      rw [← by8_drop] at hcut
      have hcb : ∀ b, blkOf (if c1 = m then A1 else A1.map (·.add m)) = some b → w.heap.size ≤ b := fun b hb => by
        by_cases hx : w.heap.size ≤ b
        · exact hx
        · exact absurd (Off.cut (S := fun k => k = b) (A := A1) (k := m) (cap := c1) (fun b' hb' e => hx (by rw [← e]; exact hbase b' hb')) b hb rfl).elim id
      have HM := Lib.hid (Mod.of_below (S := Non) hb1)
      have hc3 : c1 ≤ 9223372036854775807 := by omega
      have hform : (A1 = none ∧ c1 = 0) ∨ ∃ g, A1 = some ⟨g, 0, none⟩ := by
        rcases ho1.2 with ⟨hv, _⟩ | ⟨g, cap, cur, hv, _⟩
        · cases hv; exact .inl ⟨rfl, rfl⟩
        · cases hv; exact .inr ⟨g, rfl⟩
      have hrl2 : (rest.drop m).length = q - m := by rw [List.length_drop, HQ.out]
      have hfin : ∀ (A2 : Option Addr) (cc : Nat) (w' : World), (if c1 = m then A1 else A1.map (·.add m)) = A2 → q - m ≤ cc → cc ≤ 9223372036854775807 → Mod Non w1 w' → TtPost l most w (.returned (.tuple #[.string ⟨(rest.take m).toArray⟩, .slice A2 (q - m) cc, .int .i64 0])) w' := fun A2 cc w' e1 e2 e3 e4 => by
        unfold TtPost
        rw [HP.out]
        simp only
        rw [hrl2]
        exact ⟨A2, cc, rfl, by rw [← e1]; exact hcut.mod0 e4, by rw [← e1]; exact hcb, e2, e3, HM.out.trans0 e4⟩
      have HF := Lib.hid hfin
      clear ho1 hb1 hr1 hbase hmx hcut hcb hfin hrl2
      obtain ⟨sv, hsv⟩ : ∃ sv : ByteArray, (⟨(rest.take m).toArray⟩ : ByteArray) = sv := ⟨_, rfl⟩
      rw [hsv] at hcv HF
      clear hsv
      rcases hform with ⟨rfl, rfl⟩ | ⟨g, rfl⟩
      · obtain rfl : q = 0 := by omega
        obtain rfl : m = 0 := by omega
        go_wp2_with fail
        go_quiet (fail)
        go_wp2_with fail
        go_ret3
        exact HF.out none 0 _ rfl (by omega) (by omega) ((Mod.refl Non w1).drewN _)
      · by_cases hcm1 : c1 = m
        · subst hcm1
          obtain rfl : q = c1 := by omega
          have HF2 : ∀ w', Mod Non w1 w' → TtPost l most w (.returned (.tuple #[.string sv, .slice (some ⟨g, 0, none⟩) 0 0, .int .i64 0])) w' := fun w' hw => by
            have := HF.out (some ⟨g, 0, none⟩) 0 w' (by simp) (by omega) (by omega) hw
            rw [Nat.sub_self] at this
            exact this
          go_wp2_with fail
          go_quiet (fail)
          go_wp2_with fail
          go_ret3
          exact HF2 _ ((Mod.refl Non w1).drewN _)
        · have q1 : (m : Int) ≤ (c1 : Int) := by omega
          have q2 : (m : Int) ≤ (q : Int) := by omega
          have q3 : (0 : Int) ≤ (m : Int) := by omega
          have HF2 : ∀ w', Mod Non w1 w' → TtPost l most w (.returned (.tuple #[.string sv, .slice (some ⟨g, m, none⟩) (q - m) (c1 - m), .int .i64 0])) w' := fun w' hw =>
            HF.out (some ⟨g, m, none⟩) (c1 - m) w' (by rw [if_neg hcm1]; simp [Addr.add]; exact fun h => h.symm) (by omega) (by omega) hw
          go_wp2_with fail
          go_quiet (fail)
          go_wp2_with fail
          go_ret3
          exact HF2 _ ((Mod.refl Non w1).drewN _)

end Go.Proofs.YtgnpmmhpeianpaaGreatDoor
