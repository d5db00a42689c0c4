/- sawyerref05: right, Name. -/
import Derived.Test.YtdpjnpjmokncdaaGreatDoorB13
import Derived.Test.YtdpjnpjmokncdaaGreatDoorB15
import Derived.Test.YtdpjnpjmokncdaaGreatDoorB16
import Derived.Test.YtdpjnpjmokncdaaGreatDoorB04
namespace Go.Proofs.YtdpjnpjmokncdaaGreatDoor
open Go.RowKit

def rightB (n : Int) : Bool := decide (0 ≤ n ∧ n ≤ 1099511627776)
set_option maxRecDepth 100000 in
set_option maxHeartbeats 400000 in
theorem rightF_any (n : Int) (w : World) : Calls Tryz.prog 156 #[.int .i64 n] w fun e w' => e = .returned (.bool (rightB n)) ∧ w = w' := by
  by_cases h0 : 0 ≤ n
  · by_cases h1 : n ≤ 1099511627776
    · rw [show rightB n = true from decide_eq_true ⟨h0, h1⟩]
      have d1 : decide (n ≤ 1099511627776) = true := decide_eq_true h1
      have d0 : decide (0 ≤ n) = true := decide_eq_true h0
      go_enter Tryz.func156, Tryz.ntmps156
      go_wp2_with fail
      go_ret
      exact ⟨rfl, rfl⟩
    · rw [show rightB n = false from decide_eq_false (fun h => h1 h.2)]
      have d1 : decide (n ≤ 1099511627776) = false := decide_eq_false h1
      have d0 : decide (0 ≤ n) = true := decide_eq_true h0
      go_enter Tryz.func156, Tryz.ntmps156
      go_wp2_with fail
      go_ret
      exact ⟨rfl, rfl⟩
  · rw [show rightB n = false from decide_eq_false (fun h => h0 h.1)]
    have d0 : decide (0 ≤ n) = false := decide_eq_false h0
    go_enter Tryz.func156, Tryz.ntmps156
    go_wp2_with fail
    go_ret
    exact ⟨rfl, rfl⟩

/-- between two rounds of Name. -/
structure NaM (w : World) (k m q : Nat) (S : List UInt8) (wr : World) : Prop where
  blk : Blk wr w.heap.size 5 (by8 (List.replicate m 0 ++ S)).toArray
  mod : Mod Non w wr
  eq : digF 13 k = digF m q ++ S
theorem rep_set (p : Nat) (S : List UInt8) (c : UInt8) : (by8 (List.replicate (p + 1) 0 ++ S)).toArray.setIfInBounds p (b8 c) = (by8 (List.replicate p 0 ++ (c :: S))).toArray := by
  have e : List.replicate (p + 1) (0 : UInt8) ++ S = List.replicate p 0 ++ (0 :: S) := by
    rw [List.replicate_succ', List.append_assoc]; rfl
  rw [e, by8_append, by8_append]
  simp only [List.setIfInBounds_toArray, List.set_append]
  congr 1
  simp [by8]

set_option maxRecDepth 100000 in
set_option maxHeartbeats 1000000 in
theorem nameR_any (n : Int) (w : World) : Calls Tryz.prog 116 #[.int .i64 n] w fun e w' => e = .returned (.string (nameW n)) ∧ Mod Non w w' := by
  by_cases hr : 0 ≤ n ∧ n ≤ 1099511627776
  · obtain ⟨k, rfl⟩ := Int.eq_ofNat_of_zero_le hr.1
    obtain ⟨nm, hnm⟩ : ∃ nm, nameW (k : Int) = nm := ⟨_, rfl⟩
    have HNM := Lib.hid hnm
    have hk : k ≤ 1099511627776 := by omega
    have HRT : Hid (rightB (k : Int) = true) := decide_eq_true hr
    have hmk : ∀ w, (Instr.makeSlice 44 (.int .i64 13) (.int .i64 13)).run Tryz.prog w = .ok (.slice (some ⟨w.heap.size, 0, none⟩) 13 13) (w.alloc (.cells #[.int .u8 0, .int .u8 0, .int .u8 0, .int .u8 0, .int .u8 0, .int .u8 0, .int .u8 0, .int .u8 0, .int .u8 0, .int .u8 0, .int .u8 0, .int .u8 0, .int .u8 0] 5)) := fun _ => by kernel_rfl
    rw [hnm]
    clear hnm hr
    go_enter Tryz.func116, Tryz.ntmps116
    go_wp2_with fail
    refine (rightF_any _ _).mono ?_
    rw [HRT.out]
    rintro e w1 ⟨rfl, rfl⟩
    go_wp2_with fail
    clear hmk
    go_loopw [0, 4] (fun v i wr => ∃ (m q : Nat) (iv : Int) (S : List UInt8), m ≤ 13 ∧ q ≤ 1099511627776 ∧ iv = (m : Int) - 1 ∧ i = .int .i64 iv ∧ v = .int .i64 (q : Int) ∧ Hid (NaM w k m q S wr)) (fun _ i _ => (match i with | .int _ x => (x + 1).toNat | _ => 0))
    case atStart => exact ⟨13, k, 12, [], by omega, hk, by omega, rfl, rfl, ⟨Blk.new w _ _, (Mod.refl Non w).alloc _, by simp⟩⟩
    case round =>
      obtain ⟨m, q, iv, S, hm, hq, hiv, rfl, rfl, HP⟩ := hrel
      rcases m with _ | p
      · obtain rfl : iv = -1 := by omega
        have hr : Rd wr (some ⟨w.heap.size, 0, none⟩) 13 (by8 (digF 13 k)) := by
          have hb : Blk wr w.heap.size 5 (by8 S).toArray := HP.out.blk
          have he : digF 13 k = S := HP.out.eq
          rw [he]
          refine ⟨by rw [by8_length, ← he, digF_len], fun _ => ⟨_, 0, rfl, fun j u hu => ?_⟩⟩
          rw [Nat.zero_add, hb.cell]
          simpa using hu
        have hcv := conv_str (P := Tryz.prog) wr 44 9 5 (some ⟨w.heap.size, 0, none⟩) 13 13 (digF 13 k) Tryz.underlying44 Tryz.underlying5 Tryz.underlying9 hr
        obtain ⟨dg, hdg⟩ : ∃ dg : ByteArray, (⟨(digF 13 k).toArray⟩ : ByteArray) = dg := ⟨_, rfl⟩
        rw [hdg] at hcv
        have hds : dg.size ≤ 13 := by rw [← hdg]; simp [ByteArray.size, digF_len]
        have HDG := Lib.hid hdg
        clear hr hdg hiv
        go_wp2_with fail
        go_ret
        refine ⟨?_, HP.out.mod⟩
        have hfin : (⟨#[119, 97, 108, 47]⟩ : ByteArray) ++ dg = nm := by
          rw [← HNM.out, nameW_yes (by omega) (by omega), show (k : Int).toNat = k from rfl, walName_dig hk, ← HDG.out]
          simp [ByteArray.ext_iff]
        exact congrArg (fun s => Ending.returned (.string s)) hfin
      · obtain rfl : iv = (p : Int) := by omega
        have c0 : wr.cell? ⟨w.heap.size, p, none⟩ = some (.int .u8 0) := by
          have hb := HP.out.blk.cell p
          rw [hb]
          simp [by8, List.replicate_succ', b8]
        have f0 := HP.out.blk.frozen p
        have i0 : (0 : Int) ≤ (p : Int) := by omega
        have i1 : (p : Int) < 13 := by omega
        clear hiv
        go_wp2_with fail
        go_roundw
        case rel =>
          refine ⟨p, q / 10, (p : Int) - 1, UInt8.ofNat (48 + q % 10) :: S, by omega, by omega, rfl, rfl, by push_cast; rfl, ⟨?_, ?_, ?_⟩⟩
          · have hb := HP.out.blk.set_ p (.int .u8 (48 + (q : Int) % 10))
            have e : (.int .u8 (48 + (q : Int) % 10) : Value) = b8 (UInt8.ofNat (48 + q % 10)) := by
              unfold b8
              congr 1
              simp [UInt8.toNat_ofNat']; omega
            rw [e] at hb ⊢
            rw [rep_set] at hb
            exact hb
          · exact HP.out.mod.setCell (p := ⟨w.heap.size, p, none⟩) (.inr (Nat.le_refl _)) _
          · rw [HP.out.eq, digF, List.append_assoc, List.singleton_append]
        case measure => simp
  · have HRT : Hid (rightB n = false) := decide_eq_false hr
    rw [show nameW n = ⟨#[]⟩ by unfold nameW; rw [if_neg hr]]
    clear hr
    go_enter Tryz.func116, Tryz.ntmps116
    go_wp2_with fail
    refine (rightF_any _ _).mono ?_
    rw [HRT.out]
    rintro e w1 ⟨rfl, rfl⟩
    go_wp2_with fail
    go_ret
    exact ⟨rfl, Mod.refl _ _⟩

end Go.Proofs.YtdpjnpjmokncdaaGreatDoor
