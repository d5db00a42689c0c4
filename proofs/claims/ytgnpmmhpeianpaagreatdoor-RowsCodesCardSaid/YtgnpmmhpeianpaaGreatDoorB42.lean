/- rows.Fresh. -/
import Derived.Test.YtgnpmmhpeianpaaGreatDoorB35
import Derived.Test.YtgnpmmhpeianpaaGreatDoorB25
import Derived.Test.YtgnpmmhpeianpaaGreatDoorB10
namespace Go.Proofs.YtgnpmmhpeianpaaGreatDoor
open Go.RowKit

/-- what a transaction has noted behind n new numbers. -/
def frW (n : Nat) : List Ch := if n = 0 then [] else [⟨keyB 0 0 [], false, nB (n : Int)⟩]
theorem frW_find (n : Nat) : findC (frW n) (keyB 0 0 []) = if n = 0 then none else some ⟨keyB 0 0 [], false, nB (n : Int)⟩ := by
  unfold frW
  split
  · rfl
  · rw [findC, if_pos rfl]
theorem frW_put (n : Nat) : putC (frW n) ⟨keyB 0 0 [], false, nBs [((n : Int) + 1)]⟩ = frW (n + 1) := by
  have h1 : nBs [((n : Int) + 1)] = nB ((n + 1 : Nat) : Int) := by
    rw [nBs, nBs, List.append_nil]
    congr 1
  rw [h1]
  unfold frW
  by_cases h : n = 0
  · rw [if_pos h, putC, if_neg (by omega)]
  · rw [if_neg h, putC, if_pos rfl, if_neg (by omega)]
theorem frW_len (n : Nat) : (frW n).length ≤ 1 := by unfold frW; split <;> simp
theorem frW_val (n : Nat) : ∀ c ∈ frW n, c.val.length ≤ 100000 := by
  intro c hc
  unfold frW at hc
  split at hc
  · cases hc
  · simp only [List.mem_singleton] at hc
    rw [hc]
    have := nB_len (n : Int)
    simp only
    omega
theorem decN_nB (n : Nat) (h : n ≤ 64) : decN 1 (nB (n : Int)) = some [n] := by
  have h1 : takeNum (nB (n : Int)) = some (n, []) := by
    unfold nB
    rw [clampN_of (by omega)]
    have := takeNum_numB (n := n) (by omega) []
    rwa [List.append_nil] at this
  unfold decN
  rw [takeN_more (n := 0) h1]
  simp only [takeN]
  rw [if_pos]
  refine ⟨rfl, ?_⟩
  simp only [inAll, List.map_cons, List.map_nil, List.all_cons, List.all_nil, Bool.and_true]
  rw [inN_iff]
  omega

set_option maxRecDepth 100000 in
set_option maxHeartbeats 4000000 in
theorem fresh_any (F : Nat → Prop) (t e : Nat) (T : Tx) (n : Nat) (w : World) (h : TxIs w F t e T) (hd : T.done = false) (hw : T.writes = frW n) (hn : n ≤ 64) (hg : NoGet w e) (hpl : powG < w.heap.size) :
    Calls Tryz.prog 22 #[.pointer (some ⟨t, 0, none⟩)] w fun r w' => r = .returned (.tuple #[.int .i64 (if n < 64 then (n : Int) + 1 else 0), .int .i64 (if n < 64 then 0 else 1)]) ∧ ∃ F', TxIs w' F' t e { T with writes := frW (if n < 64 then n + 1 else n) } ∧ Mod F w w' ∧ ∀ i, F' i → F i ∨ w.heap.size ≤ i := by
  have hvl : ∀ c ∈ T.writes, c.val.length ≤ 100000 := by rw [hw]; exact frW_val n
  have hwl : T.writes.length < 256 := by rw [hw]; have := frW_len n; omega
  have HH := Lib.hid h
  have HD := Lib.hid hd
  have HW := Lib.hid hw
  have HG := Lib.hid hg
  have HVL := Lib.hid hvl
  have HWL := Lib.hid hwl
  clear h hd hw hg hvl hwl
  go_enter Tryz.func22, Tryz.ntmps22
  go_wp2_with fail
  refine (numbers_any 0 1 w).mono ?_
  rintro r w1 ⟨rfl, hb1, hm1⟩
  have HM1 := Lib.hid hm1
  have hs1 := hm1.size
  have hk := kget_any F t e T 0 0 1 w.heap.size w1 (HH.out.mod0 hm1) HD.out HVL.out (HG.out.mod0 hm1) hb1 (by omega) (by omega) (by omega) (by omega) (by omega)
  unfold kindV at hk ⊢
  have HK := Lib.hid hk
  clear hm1 hk hb1
  go_wp2_with fail
  refine HK.out.mono ?_
  intro r w2 hp
  unfold KgPost at hp
  rw [HW.out, frW_find] at hp
  rcases Nat.eq_zero_or_pos n with rfl | hn0
  · rw [if_pos rfl] at hp
    obtain ⟨rfl, hm2⟩ := hp
    have HM2 := Lib.hid (HM1.out.trans0 hm2)
    have hs2 := HM2.out.size
    have HTR : Hid (∀ W, Calls Tryz.prog 48 #[.int .i64 (1)] W fun r W' => r = .returned (.bool true) ∧ W = W') := fun W => (isTree_any (1) W).mono fun r W' h => ⟨by rw [h.1, decide_eq_true (by omega)], h.2⟩
    clear hm2
    go_wp2_with (go_at_call 48; refine (HTR.out _).mono ?_; rintro r w9 ⟨rfl, rfl⟩)
    refine (numbers_any 0 1 w2).mono ?_
    rintro r w3 ⟨rfl, hb3, hm3⟩
    have HM3 := Lib.hid (HM2.out.trans0 hm3)
    have hs3 := HM3.out.size
    have hrd := rd_new w3 3 [.int .i64 (1)]
    have HRD := Lib.hid hrd
    have HM4 := Lib.hid (HM3.out.alloc (.cells #[.int .i64 (1)] 3))
    unfold kindV
    clear hb3 hm3 hrd
    go_wp2_with fail
    have hkp := kput_ok F t e T 0 0 w2.heap.size (some ⟨w3.heap.size, 0, none⟩) 1 1 [(1)] _ (HH.out.mod0 HM4.out) HD.out HRD.out (by omega) (by simp [inAll, inN] <;> omega) (by omega) (by omega) (by omega) (by omega) (.inr HWL.out) (by rw [World.size_alloc]; omega)
    unfold kindV at hkp
    refine hkp.mono ?_
    rintro r w5 ⟨rfl, F', h5, h6, h7⟩
    rw [HW.out, show (1 : Int) = ((0 : Nat) : Int) + 1 from rfl, frW_put] at h5
    have H5 := Lib.hid h5
    have H6 := Lib.hid h6
    have H7 := Lib.hid h7
    have hs4 := HM4.out.size
    clear h5 h6 h7 hkp
    go_wp2_with fail
    go_ret2
    exact ⟨by simp, F', H5.out, (HM4.out.non (S := F)).trans H6.out fun i hi => .inl hi, fun i hi => (H7.out i hi).imp (fun h => h) fun h => by omega⟩
  · rw [if_neg (by omega)] at hp
    simp only [Bool.false_eq_true, if_false] at hp
    unfold DnPost at hp
    rw [decN_nB n hn] at hp
    obtain ⟨A2, c2, rfl, hr2, hc2, hm2⟩ := hp
    obtain ⟨b, o, rfl, u, hu, hc⟩ := hr2.at_ (k := 0) (by omega)
    simp only [i64s, List.map_cons, List.map_nil, List.getElem?_cons_zero, Option.some.injEq] at hu
    subst hu
    rw [Nat.add_zero] at hc
    by_cases hlt : n < 64
    · have HM2 := Lib.hid (HM1.out.trans0 hm2)
      have hs2 := HM2.out.size
      have HTR : Hid (∀ W, Calls Tryz.prog 48 #[.int .i64 (1 + (n : Int))] W fun r W' => r = .returned (.bool true) ∧ W = W') := fun W => (isTree_any (1 + (n : Int)) W).mono fun r W' h => ⟨by rw [h.1, decide_eq_true (by omega)], h.2⟩
      clear hm2 hr2 hc2
      go_wp2_with (go_at_call 48; refine (HTR.out _).mono ?_; rintro r w9 ⟨rfl, rfl⟩)
      refine (numbers_any 0 1 w2).mono ?_
      rintro r w3 ⟨rfl, hb3, hm3⟩
      have HM3 := Lib.hid (HM2.out.trans0 hm3)
      have hs3 := HM3.out.size
      have hrd := rd_new w3 3 [.int .i64 (1 + (n : Int))]
      have HRD := Lib.hid hrd
      have HM4 := Lib.hid (HM3.out.alloc (.cells #[.int .i64 (1 + (n : Int))] 3))
      unfold kindV
      clear hb3 hm3 hrd
      go_wp2_with fail
      have hkp := kput_ok F t e T 0 0 w2.heap.size (some ⟨w3.heap.size, 0, none⟩) 1 1 [(1 + (n : Int))] _ (HH.out.mod0 HM4.out) HD.out HRD.out (by omega) (by simp [inAll, inN] <;> omega) (by omega) (by omega) (by omega) (by omega) (.inr HWL.out) (by rw [World.size_alloc]; omega)
      unfold kindV at hkp
      refine hkp.mono ?_
      rintro r w5 ⟨rfl, F', h5, h6, h7⟩
      rw [HW.out, show (1 + (n : Int)) = (n : Int) + 1 by omega, frW_put] at h5
      have H5 := Lib.hid h5
      have H6 := Lib.hid h6
      have H7 := Lib.hid h7
      have hs4 := HM4.out.size
      clear h5 h6 h7 hkp
      go_wp2_with fail
      go_ret2
      simp only
      exact ⟨by rw [show (1 + (n : Int)) = (n : Int) + 1 by omega]; rfl, F', H5.out, (HM4.out.non (S := F)).trans H6.out fun i hi => .inl hi, fun i hi => (H7.out i hi).imp (fun h => h) fun h => by omega⟩
    · obtain rfl : n = 64 := by omega
      have HM2 := Lib.hid (HM1.out.trans0 hm2)
      have HTR : Hid (∀ W, Calls Tryz.prog 48 #[.int .i64 65] W fun r W' => r = .returned (.bool false) ∧ W = W') := fun W => (isTree_any 65 W).mono fun r W' h => ⟨by rw [h.1]; rfl, h.2⟩
      clear hm2 hr2 hc2
      go_wp2_with (go_at_call 48; refine (HTR.out _).mono ?_; rintro r w9 ⟨rfl, rfl⟩)
      go_ret2
      have h2 := HH.out.mod0 HM2.out
      obtain ⟨sq, dn, wr, gd⟩ := T
      have hw : wr = frW 64 := HW.out
      subst hw
      exact ⟨by simp, F, h2, HM2.out.non, fun i hi => .inl hi⟩

end Go.Proofs.YtgnpmmhpeianpaaGreatDoor
