/- sawyerlaw05.awake: it answers true. -/
import Derived.Test.YtgdamcimpgapgaaGreatDoorM17
import Derived.Test.YtgdamcimpgapgaaGreatDoorM20
import Derived.Test.YtgdamcimpgapgaaGreatDoorM06
import Derived.Test.YtgdamcimpgapgaaGreatDoorM22
import Derived.Lib.SlBytesConst
namespace Go.Proofs.YtgdamcimpgapgaaGreatDoor
open Go.RowKit

theorem rd_lit2 (w : World) (t : TypeId) (fr : Nat × Nat) (a b : UInt8) : Rd (w.alloc (.cells #[b8 a, b8 b] t fr)) (some ⟨w.heap.size, 0, none⟩) 2 (by8 [a, b]) := by
  refine ⟨rfl, fun _ => ⟨w.heap.size, 0, rfl, fun j u hu => ?_⟩⟩
  rw [Nat.zero_add, cell_of_row _ _ j _ t fr (heap_alloc_new w _)]
  match j, hu with
  | 0, hu => exact hu
  | 1, hu => exact hu

theorem newD_calm (n : Int) : Calm (newD n) := ⟨rfl, rfl⟩

/-- the two steps that the example takes on the disk. -/
theorem awake_plain : ∃ D1 D2, addB (newD 1000) 7 [97, 98] = (D1, 0) ∧ addB D1 7 [99, 100] = (D2, 0) ∧ DkOk D1 ∧ DkOk D2 ∧ ∃ f, findF D2.files (nameW 7) = some f ∧ replayB f.bytes = [[97, 98], [99, 100]] := by
  have hs := nameW_size 7
  have k1 := newD_ok (n := 1000) (by omega) (by omega)
  have f1 := frameB_len (b := [97, 98]) (by simp)
  have f2 := frameB_len (b := [99, 100]) (by simp)
  simp only [List.length_cons, List.length_nil] at f1 f2
  have n1 : needW (newD 1000) 7 [97, 98] ≤ 100 := by unfold needW; split <;> omega
  obtain ⟨a1, a2⟩ := add_grew (newD_calm 1000) k1 (n := 7) (by omega) (by omega) (b := [97, 98]) (by simp) (by show _ ≤ (1000 : Int) - 0; omega)
  have k2 := add_ok k1 7 [97, 98]
  have hu : (addB (newD 1000) 7 [97, 98]).1.used ≤ 100 := by rw [a2.used]; show (0 : Int) + _ ≤ 100; omega
  have hnn : (addB (newD 1000) 7 [97, 98]).1.n = 1000 := a2.n
  have n2 : needW (addB (newD 1000) 7 [97, 98]).1 7 [99, 100] ≤ 100 := by unfold needW; split <;> omega
  obtain ⟨b1, b2⟩ := add_grew a2.calm k2 (n := 7) (by omega) (by omega) (b := [99, 100]) (by simp) (by omega)
  obtain ⟨s, hs⟩ := a2.file
  obtain ⟨t, ht⟩ := b2.file
  refine ⟨_, _, Prod.ext rfl a1, Prod.ext rfl b1, k2, add_ok k2 7 _, _, ht, ?_⟩
  rw [fileB_of hs]
  show replayB ((fileB (newD 1000) (nameW 7) ++ frameB [97, 98]) ++ frameB [99, 100]) = _
  rw [show fileB (newD 1000) (nameW 7) = [] from rfl, List.nil_append]
  rw [replayB_frame (by simp)]
  have := replayB_frame (b := [99, 100]) (by simp) []
  rw [List.append_nil] at this
  rw [this, replayB_nil]

theorem nameW_7 : nameW 7 = ⟨#[119, 97, 108, 47, 48, 48, 48, 48, 48, 48, 48, 48, 48, 48, 48, 48, 55]⟩ := by
  rw [nameW_yes (by omega) (by omega)]
  unfold walName
  rw [show (7 : Int).toNat = 7 from rfl, Lib.decDigits_one (by omega)]
  rfl
theorem nameW_m1 : nameW (-1) = ⟨#[]⟩ := by unfold nameW; rw [if_neg (by omega)]

set_option maxRecDepth 100000 in
set_option maxHeartbeats 1000000 in
theorem awake_any (w : World) (hL : Lay w) : Calls Tryz.prog 6 #[] w fun e w' => e = .returned (.bool true) ∧ Mod Non w w' := by
  obtain ⟨D1, D2, hD1, hD2, ok1, ok2, f, hf, hr⟩ := awake_plain
  have H1 := Lib.hid hD1
  have H2 := Lib.hid hD2
  have HF := Lib.hid hf
  have HR := Lib.hid hr
  have HL := Lib.hid hL
  clear hD1 hD2 hf hr hL
  have hcs := fun (w : World) (C : Array Value) (n c : Nat) => Lib.run_convert_bytes_const (P := Tryz.prog) w 31 5 C n c Tryz.underlying31 Tryz.underlying5
  go_enter Tryz.func6, Tryz.ntmps6
  go_wp2_with fail
  refine (new_yes 1000 _ HL.out (by omega) (by omega)).mono ?_
  rintro e w1 ⟨d, F, rfl, hd1, hb1, hF1⟩
  have HD1 := Lib.hid hd1
  have HB1 := Lib.hid hb1
  have HF1 := Lib.hid hF1
  clear hd1 hb1 hF1
  go_wp2_with fail
  refine (add_wal F d (newD 1000) 7 _ 2 2 [97, 98] _ (HD1.out.mod0 ((Mod.refl Non w1).alloc _)) (newD_ok (by omega) (by omega)) (rd_lit2 _ _ _ _ _) (by omega)).mono ?_
  rw [H1.out]
  rintro e w2 ⟨rfl, F2, hd2, hm2, hF2⟩
  have HM2 := Lib.hid ((((Mod.refl Non w1).alloc (.cells #[.int .u8 97, .int .u8 98] 5 (2, 3)))).non.trans hm2 (S := F) fun _ h => .inl h)
  have HD2 := Lib.hid hd2
  have HF2 : Hid (∀ k, F2 k → F k ∨ w1.heap.size ≤ k) := fun k hk => (hF2 k hk).imp id fun h => by simp at h; omega
  clear hd2 hm2 hF2
  go_wp2_with fail
  refine (add_wal F2 d D1 7 _ 2 2 [99, 100] _ (HD2.out.mod0 ((Mod.refl Non w2).alloc _)) ok1 (rd_lit2 _ _ _ _ _) (by omega)).mono ?_
  rw [H2.out]
  rintro e w3 ⟨rfl, F3, hd3, hm3, hF3⟩
  have HM3 := Lib.hid ((((Mod.refl Non w2).alloc (.cells #[.int .u8 99, .int .u8 100] 5 (2, 3)))).non.trans hm3 (S := F2) fun _ h => .inl h)
  have HD3 := Lib.hid hd3
  clear hd3 hm3 hF3
  go_wp2_with fail
  refine (replay_any F3 d D2 7 _ HD3.out ok2).mono ?_
  rintro e w4 hp
  unfold RpPost at hp
  rw [if_pos (by omega), HF.out] at hp
  dsimp only at hp
  obtain ⟨A, k, c, xs, rfl, hrow, hxl, hm4⟩ := hp
  rw [HR.out] at hxl
  have HM4 : Hid (Mod Non w w4) := by
    show Mod Non w w4
    have h1 : Mod Non w w1 := Mod.of_below HB1.out
    have h2 : Mod Non w w2 := h1.trans HM2.out fun k hk => .inr (HF1.out k hk)
    have h3 : Mod Non w w3 := h2.trans HM3.out fun k hk => .inr (by rcases HF2.out k hk with h | h; exact HF1.out k h; have := h1.size; omega)
    exact h3.trans0 hm4
  clear hm4
  rcases xs with _ | ⟨x0, _ | ⟨x1, _ | ⟨x2, r⟩⟩⟩
  · simp at hxl
  · simp at hxl
  · simp only [List.map_cons, List.map_nil, List.cons.injEq, and_true] at hxl
    obtain ⟨h0, h1⟩ := hxl
    obtain ⟨A0, n0, c0, l0⟩ := x0
    obtain ⟨A1, n1, c1, l1⟩ := x1
    simp only at h0 h1
    subst h0
    subst h1
    have hk : k = 2 := by have := hrow.rd.1; simpa using this.symm
    subst hk
    obtain ⟨b, o, hA, hcell⟩ := hrow.rd.2 (by omega)
    subst hA
    have g0 : w4.cell? ⟨b, o, none⟩ = some (.slice A0 n0 c0) := hcell 0 _ rfl
    have g1 : w4.cell? ⟨b, o + 1, none⟩ = some (.slice A1 n1 c1) := hcell 1 _ rfl
    have r0 := (hrow.rows ⟨A0, n0, c0, [97, 98]⟩ (by simp)).1
    have r1 := (hrow.rows ⟨A1, n1, c1, [99, 100]⟩ (by simp)).1
    have s0 : (convert 31 9 (.slice A0 n0 c0)).run Tryz.prog w4 = .ok (.string ⟨#[97, 98]⟩) w4 := conv_str (P := Tryz.prog) w4 31 9 5 A0 n0 c0 [97, 98] Tryz.underlying31 Tryz.underlying5 Tryz.underlying9 r0
    have s1 : (convert 31 9 (.slice A1 n1 c1)).run Tryz.prog w4 = .ok (.string ⟨#[99, 100]⟩) w4 := conv_str (P := Tryz.prog) w4 31 9 5 A1 n1 c1 [99, 100] Tryz.underlying31 Tryz.underlying5 Tryz.underlying9 r1
    have HL4 := Lib.hid (HL.out.mod0 HM4.out)
    clear hrow hcell r0 r1
    go_wp2_with fail
    refine (name_any 7 _ HL4.out).mono ?_
    rw [nameW_7]
    rintro e w5 ⟨rfl, hm5⟩
    have HM5 := Lib.hid (HM4.out.trans0 hm5)
    have HL5 := Lib.hid (HL4.out.mod0 hm5)
    clear hm5
    go_wp2_with fail
    refine (name_any (-1) _ HL5.out).mono ?_
    rw [nameW_m1]
    rintro e w6 ⟨rfl, hm6⟩
    have HM6 := Lib.hid (HM5.out.trans0 hm6)
    clear hm6
    go_wp2_with fail
    go_ret
    exact ⟨rfl, HM6.out⟩
  · simp at hxl

end Go.Proofs.YtgdamcimpgapgaaGreatDoor
