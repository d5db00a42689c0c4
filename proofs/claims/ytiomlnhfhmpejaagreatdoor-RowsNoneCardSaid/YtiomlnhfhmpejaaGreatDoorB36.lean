/- sawyerlaw18: awake; RowsFresh. -/
import Derived.Test.YtiomlnhfhmpejaaGreatDoorB34
import Derived.Test.YtiomlnhfhmpejaaGreatDoorB35
import Derived.Test.YtiomlnhfhmpejaaGreatDoorB30
namespace Go.Proofs.YtiomlnhfhmpejaaGreatDoor
open Go.RowKit

theorem frW_other (n : Nat) (id : Int) (h0 : 1 ≤ id) (h1 : id ≤ 64) : findC (frW n) (keyB id 0 []) = none := by
  unfold frW
  split
  · rfl
  · rw [findC, if_neg, findC]
    intro h
    have := (keyB_inj h (by omega) (by omega) (by omega) (by omega) (by omega) (by omega) (by omega) (by omega)).1
    omega
theorem Fw.getTree {w wr : World} {wd e t : Nat} {Fe Ft : Nat → Prop} {E : Eg} {n : Nat} (h : Fw w wd e t Fe Ft E n wr) (id : Int) (h0 : 1 ≤ id) (h1 : id ≤ 64) :
    Calls Tryz.prog 8 #[.pointer (some ⟨t, 0, none⟩), .int .i64 id] wr fun r w' => r = .returned (.tuple #[zeroT, .int .i64 10]) ∧ Mod Non wr w' :=
  getTree_none Ft t e ⟨0, false, frW n, []⟩ id wr h.tx rfl (frW_val n) h.noget h0 h1 (frW_other n id h0 h1)

set_option maxRecDepth 100000 in
set_option maxHeartbeats 2000000 in
theorem awake18 (w : World) (hL : Lay w) : Calls Tryz.prog 5 #[] w fun r w' => r = .returned (.bool true) ∧ Mod Non w w' := by
  have HL := Lib.hid hL
  clear hL
  go_enter Tryz.func5, Tryz.ntmps5
  go_wp2_with fail
  refine (made_new w HL.out).mono ?_
  rintro r w1 ⟨wd, e, t, Fe, Ft, rfl, h1⟩
  have H1 := Lib.hid h1
  have c1 := h1.wdc
  clear h1
  go_wp2_with fail
  refine (H1.out.fresh (by omega)).mono ?_
  rintro r w2 ⟨rfl, Ft2, h2⟩
  rw [if_pos (by omega)] at h2
  have H2 := Lib.hid h2
  have c2 := h2.wdc
  clear h2 c1
  go_wp2_with fail
  refine (H2.out.fresh (by omega)).mono ?_
  rintro r w3 ⟨rfl, Ft3, h3⟩
  rw [if_pos (by omega)] at h3
  have H3 := Lib.hid h3
  have c3 := h3.wdc
  clear h3 c2
  go_wp2_with fail
  refine (H3.out.getTree 1 (by omega) (by omega)).mono ?_
  rintro r w4 ⟨rfl, hm4⟩
  have HM4 := Lib.hid (H3.out.mod.trans0 hm4)
  unfold zeroT
  clear hm4 c3
  go_wp2_with fail
  refine (row_ok 3 2 7 _ (by omega) (by omega) (by omega) (by omega) (by omega) (by omega)).mono ?_
  rintro r w5 ⟨A5, c5, rfl, -, hm5⟩
  have HM5 := Lib.hid ((HM4.out.alloc _).trans0 hm5)
  clear hm5
  go_wp2_with fail
  go_ret
  exact ⟨rfl, HM5.out⟩

set_option maxRecDepth 100000 in
set_option maxHeartbeats 4000000 in
theorem rowsFresh_walk (many : Int) (w : World) (hL : Lay w) : Calls Tryz.prog 3 #[.int .i64 many] w fun r w' => r = .returned (.bool true) ∧ Mod Non w w' := by
  have HL := Lib.hid hL
  have hb0 : 0 ≤ many % 128 := by omega
  have hb1 : many % 128 ≤ 127 := by omega
  have hand := and127i many
  clear hL
  go_enter Tryz.func3, Tryz.ntmps3
  go_wp2_with fail
  refine (awake18 w HL.out).mono ?_
  rintro r w1 ⟨rfl, hm1⟩
  have HM1 := Lib.hid hm1
  clear hm1
  go_wp2_with fail
  refine (made_new w1 (HL.out.mod0 HM1.out)).mono ?_
  rintro r w2 ⟨wd, e, t, Fe, Ft, rfl, h2⟩
  have H2 := Lib.hid h2
  clear h2
  go_wp2_with fail
  obtain ⟨M, hM⟩ : ∃ M : Int, many % 128 = M := ⟨_, rfl⟩
  rw [hM] at hb0 hb1 hand
  clear hM
  go_loopw [5] (fun i wr => ∃ (k : Nat) (F' : Nat → Prop), (k : Int) ≤ M ∧ i = .int .i64 ((k : Int) + 1) ∧ Hid (Fw w1 wd e t Fe F' (pinE (newEg 1099511627776)) (min k 64) wr)) (fun i _ => (M + 1 - intOf i).toNat)
  case atStart => exact ⟨0, Ft, hb0, rfl, H2.out⟩
  case round =>
    obtain ⟨k, F', hk, rfl, HF⟩ := hrel
    rename World => wr
    by_cases hlt : (k : Int) + 1 ≤ M
    · have c2 := HF.out.wdc
      have hfr := HF.out.fresh (by omega : min k 64 ≤ 64)
      by_cases hk64 : k < 64
      · rw [show min k 64 = k by omega] at hfr
        simp only [if_pos hk64] at hfr
        have HFR := Lib.hid hfr
        have d1 : decide ((k : Int) + 1 ≤ 64) = true := decide_eq_true (by omega)
        have d2 : decide (64 < (k : Int) + 1) = false := decide_eq_false (by omega)
        clear hfr
        go_wp2_with fail
        refine HFR.out.mono ?_
        rintro r w3 ⟨rfl, F3, h3⟩
        have H3 := Lib.hid h3
        clear h3 c2
        go_wp2_with fail
        go_roundw
        case rel => exact ⟨k + 1, F3, by omega, by go_num, by rw [show min (k + 1) 64 = k + 1 by omega]; exact H3.out⟩
        case measure => simp [intOf]; omega
      · rw [show min k 64 = 64 by omega] at hfr
        simp only [Nat.lt_irrefl, if_false] at hfr
        have HFR := Lib.hid hfr
        have d1 : decide ((k : Int) + 1 ≤ 64) = false := decide_eq_false (by omega)
        have d2 : decide (64 < (k : Int) + 1) = true := decide_eq_true (by omega)
        clear hfr
        go_wp2_with fail
        refine HFR.out.mono ?_
        rintro r w3 ⟨rfl, F3, h3⟩
        have H3 := Lib.hid h3
        clear h3 c2
        go_wp2_with fail
        go_roundw
        case rel => exact ⟨k + 1, F3, by omega, by go_num, by rw [show min (k + 1) 64 = 64 by omega]; exact H3.out⟩
        case measure => simp [intOf]; omega
    · go_wp2_with fail
      go_ret
      exact ⟨rfl, HM1.out.trans0 HF.out.mod⟩

end Go.Proofs.YtiomlnhfhmpejaaGreatDoor

/- sawyerlaw18: RowsNone. -/
namespace Go.Proofs.YtiomlnhfhmpejaaGreatDoor
open Go.RowKit

set_option maxRecDepth 100000 in
set_option maxHeartbeats 4000000 in
/-- the law, given what the five readings tell. -/
theorem rowsNone_of (id er : Int) (w : World) (hL : Lay w) (hw : (1 ≤ id ∧ id ≤ 64 ∧ er = 0) ∨ ((id < 1 ∨ 64 < id) ∧ er = 10))
    (hr : ∀ (t e : Nat) (Ft : Nat → Prop) (W : World), TxIs W Ft t e ⟨0, false, [], []⟩ → NoGet W e →
      Calls Tryz.prog 8 #[.pointer (some ⟨t, 0, none⟩), .int .i64 id] W (fun r w' => r = .returned (.tuple #[zeroT, .int .i64 10]) ∧ Mod Non W w') ∧
      Calls Tryz.prog 9 #[.pointer (some ⟨t, 0, none⟩), .int .i64 id] W (fun r w' => r = .returned (.tuple #[.agg #[.int .i64 0, .int .i64 0], .int .i64 er]) ∧ Mod Non W w') ∧
      Calls Tryz.prog 10 #[.pointer (some ⟨t, 0, none⟩), .int .i64 id] W (fun r w' => r = .returned (.tuple #[zeroH, .int .i64 er]) ∧ Mod Non W w') ∧
      Calls Tryz.prog 11 #[.pointer (some ⟨t, 0, none⟩), .int .i64 id] W (fun r w' => r = .returned (.tuple #[.agg #[.int .i64 0, .int .i64 0, .int .i64 0], .int .i64 er]) ∧ Mod Non W w') ∧
      Calls Tryz.prog 12 #[.pointer (some ⟨t, 0, none⟩)] W (fun r w' => r = .returned (.slice none 0 0) ∧ Mod Non W w')) :
    Calls Tryz.prog 4 #[.int .i64 id] w fun r w' => r = .returned (.bool true) ∧ Mod Non w w' := by
  have HL := Lib.hid hL
  have HR := Lib.hid hr
  clear hL hr
  unfold zeroT zeroH at HR
  go_enter Tryz.func4, Tryz.ntmps4
  go_wp2_with fail
  refine (awake18 w HL.out).mono ?_
  rintro r w1 ⟨rfl, hm1⟩
  have HM1 := Lib.hid hm1
  clear hm1
  go_wp2_with fail
  refine (made_new w1 (HL.out.mod0 HM1.out)).mono ?_
  rintro r w2 ⟨wd, e, t, Fe, Ft, rfl, h2⟩
  have H2 := Lib.hid h2
  have HR2 : Hid (∀ W, Mod Non w2 W → _) := fun W hm => HR.out t e Ft W (H2.out.mod0 hm).tx (H2.out.mod0 hm).noget
  have HW : Hid (∀ W, Mod Non w2 W → W.cell? ⟨wd, 2, none⟩ = some (.pointer (some ⟨t, 0, none⟩))) := fun W hm => (H2.out.mod0 hm).wdc
  have c2 := h2.wdc
  clear h2
  go_wp2_with fail
  refine (HR2.out w2 (Mod.refl _ _)).1.mono ?_
  rintro r w3 ⟨rfl, hm3⟩
  have HM3 := Lib.hid (hm3.alloc (.cells #[.int .i64 0, .int .i64 0, .int .i64 0, .string ⟨#[]⟩, .string ⟨#[]⟩] 36))
  have c3 := HW.out _ HM3.out
  clear hm3 c2
  go_wp2_with fail
  refine (HR2.out _ HM3.out).2.1.mono ?_
  rintro r w4 ⟨rfl, hm4⟩
  have hm4' := HM3.out.trans0 hm4
  have HM4 := Lib.hid (hm4'.alloc (.cells #[.int .i64 0, .int .i64 0] 40))
  have HB4 := Lib.hid (Blk.new w4 40 #[.int .i64 0, .int .i64 0])
  have c4 := HW.out _ HM4.out
  clear hm4 hm4' c3
  go_wp2_with fail
  refine (HR2.out _ HM4.out).2.2.1.mono ?_
  rintro r w5 ⟨rfl, hm5⟩
  have hm5' := HM4.out.trans0 hm5
  have HB45 := Lib.hid ((HB4.out.mod hm5 fun h => h).alloc (.cells #[.int .i64 0, .string ⟨#[]⟩, .int .i64 0, .int .i64 0, .slice none 0 0, .string ⟨#[]⟩] 45))
  have HM5 := Lib.hid (hm5'.alloc (.cells #[.int .i64 0, .string ⟨#[]⟩, .int .i64 0, .int .i64 0, .slice none 0 0, .string ⟨#[]⟩] 45))
  have HB5 := Lib.hid (Blk.new w5 45 #[.int .i64 0, .string ⟨#[]⟩, .int .i64 0, .int .i64 0, .slice none 0 0, .string ⟨#[]⟩])
  have c5 := HW.out _ HM5.out
  clear hm5 hm5' c4
  go_wp2_with fail
  refine (HR2.out _ HM5.out).2.2.2.1.mono ?_
  rintro r w6 ⟨rfl, hm6⟩
  have hm6' := HM5.out.trans0 hm6
  obtain ⟨w7, hw7⟩ : ∃ w7, w7 = w6.alloc (.cells #[.int .i64 0, .int .i64 0, .int .i64 0] 49) := ⟨_, rfl⟩
  have hm7 : Mod Non w6 w7 := by rw [hw7]; exact (Mod.refl Non w6).alloc _
  have HM7 := Lib.hid (hm6'.trans0 hm7)
  have hb6 : Blk w7 w6.heap.size 49 #[.int .i64 0, .int .i64 0, .int .i64 0] := by rw [hw7]; exact Blk.new _ _ _
  have hb5 := (HB5.out.mod hm6 fun h => h).mod hm7 fun h => h
  have hb4 := (HB45.out.mod hm6 fun h => h).mod hm7 fun h => h
  have c7 := HW.out _ HM7.out
  have q0 : w7.cell? ⟨w4.heap.size, 0, none⟩ = some (.int .i64 0) := hb4.cell 0
  have q1 : w7.cell? ⟨w4.heap.size, 1, none⟩ = some (.int .i64 0) := hb4.cell 1
  have q2 : w7.cell? ⟨w5.heap.size, 0, none⟩ = some (.int .i64 0) := hb5.cell 0
  have q3 : w7.cell? ⟨w5.heap.size, 1, none⟩ = some (.string ⟨#[]⟩) := hb5.cell 1
  have q4 : w7.cell? ⟨w6.heap.size, 1, none⟩ = some (.int .i64 0) := hb6.cell 1
  have q5 : w7.cell? ⟨w6.heap.size, 2, none⟩ = some (.int .i64 0) := hb6.cell 2
  have HTR := Lib.hid (HR2.out _ HM7.out).2.2.2.2
  subst hw7
  clear hm6 hm6' hm7 hb6 hb5 hb4 c5
  rcases hw with ⟨hw1, hw2, rfl⟩ | ⟨hw1 | hw1, rfl⟩
  · have d1 : decide (1 ≤ id) = true := decide_eq_true (by omega)
    have d2 : decide (id ≤ 64) = true := decide_eq_true (by omega)
    go_wp2_with fail
    refine HTR.out.mono ?_
    rintro r w8 ⟨rfl, hm8⟩
    have HM8 := Lib.hid ((HM1.out.trans0 H2.out.mod).trans0 (HM7.out.trans0 hm8))
    clear hm8
    go_wp2_with fail
    go_ret
    exact ⟨rfl, HM8.out⟩
  · have d1 : decide (1 ≤ id) = false := decide_eq_false (by omega)
    have d2 : decide (id ≤ 64) = true := decide_eq_true (by omega)
    go_wp2_with fail
    refine HTR.out.mono ?_
    rintro r w8 ⟨rfl, hm8⟩
    have HM8 := Lib.hid ((HM1.out.trans0 H2.out.mod).trans0 (HM7.out.trans0 hm8))
    clear hm8
    go_wp2_with fail
    go_ret
    exact ⟨rfl, HM8.out⟩
  · have d1 : decide (1 ≤ id) = true := decide_eq_true (by omega)
    have d2 : decide (id ≤ 64) = false := decide_eq_false (by omega)
    go_wp2_with fail
    refine HTR.out.mono ?_
    rintro r w8 ⟨rfl, hm8⟩
    have HM8 := Lib.hid ((HM1.out.trans0 H2.out.mod).trans0 (HM7.out.trans0 hm8))
    clear hm8
    go_wp2_with fail
    go_ret
    exact ⟨rfl, HM8.out⟩

theorem getTree_ten (t e : Nat) (Ft : Nat → Prop) (W : World) (h : TxIs W Ft t e ⟨0, false, [], []⟩) (hg : NoGet W e) (id : Int) :
    Calls Tryz.prog 8 #[.pointer (some ⟨t, 0, none⟩), .int .i64 id] W fun r w' => r = .returned (.tuple #[zeroT, .int .i64 10]) ∧ Mod Non W w' := by
  by_cases hi : 1 ≤ id ∧ id ≤ 64
  · exact getTree_none Ft t e ⟨0, false, [], []⟩ id W h rfl (fun c hc => by cases hc) hg hi.1 hi.2 rfl
  · exact getTree_off _ id W hi

theorem rowsNone_walk (id : Int) (w : World) (hL : Lay w) : Calls Tryz.prog 4 #[.int .i64 id] w fun r w' => r = .returned (.bool true) ∧ Mod Non w w' := by
  by_cases hi : 1 ≤ id ∧ id ≤ 64
  · refine rowsNone_of id 0 w hL (.inl ⟨hi.1, hi.2, rfl⟩) fun t e Ft W h hg => ⟨getTree_ten t e Ft W h hg id, ?_, ?_, ?_, ?_⟩
    · exact getCount_of 0 _ id W fun W' hm => row2_none Ft t e ⟨0, false, [], []⟩ id W' (h.mod0 hm) rfl (fun c hc => by cases hc) (hg.mod0 hm) hi.1 hi.2 rfl
    · exact getHead_none Ft t e ⟨0, false, [], []⟩ id W h rfl (fun c hc => by cases hc) hg hi.1 hi.2 rfl
    · exact getLease_of 0 _ id W fun W' hm => row3_none Ft t e ⟨0, false, [], []⟩ id W' (h.mod0 hm) rfl (fun c hc => by cases hc) (hg.mod0 hm) hi.1 hi.2 rfl
    · exact trees_none _ W fun id W' hm _ _ => getTree_ten t e Ft W' (h.mod0 hm) (hg.mod0 hm) id
  · refine rowsNone_of id 10 w hL (.inr ⟨by omega, rfl⟩) fun t e Ft W h hg => ⟨getTree_ten t e Ft W h hg id, ?_, ?_, ?_, ?_⟩
    · exact getCount_of 10 _ id W fun W' _ => row2_off _ id W' hi
    · exact getHead_off _ id W hi
    · exact getLease_of 10 _ id W fun W' _ => row3_off _ id W' hi
    · exact trees_none _ W fun id W' hm _ _ => getTree_ten t e Ft W' (h.mod0 hm) (hg.mod0 hm) id

end Go.Proofs.YtiomlnhfhmpejaaGreatDoor
