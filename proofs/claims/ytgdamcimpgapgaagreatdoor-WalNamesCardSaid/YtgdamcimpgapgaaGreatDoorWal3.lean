/- wal.none, wal.Need, wal.chunks. -/
import Derived.Test.YtgdamcimpgapgaaGreatDoorWal2
import Derived.Test.YtgdamcimpgapgaaGreatDoorDiskP
import Derived.Test.YtgdamcimpgapgaaGreatDoorCode6
namespace Go.Proofs.YtgdamcimpgapgaaGreatDoor
open Go.RowKit

def walDir : ByteArray := ⟨#[119, 97, 108, 47]⟩
theorem walDir_named : named walDir = true := by decide +kernel

set_option maxRecDepth 100000 in
set_option maxHeartbeats 400000 in
theorem none_any (F : Nat → Prop) (d : Nat) (D : Dk) (w : World) (h : DiskIs w F d D) (ok : DkOk D) :
    Calls Tryz.prog 29 #[.pointer (some ⟨d, 0, none⟩)] w fun e w' => e = .returned (.bool false) ∧ Mod Non w w' := by
  have hr := read_any walDir F d D w h ok (by decide)
  cases hf : findF D.files walDir with
  | none =>
    have hc : Calls Tryz.prog 40 #[.pointer (some ⟨d, 0, none⟩), .string walDir] w fun e w' => e = .returned (.tuple #[.slice none 0 0, .int .i64 3]) ∧ Mod Non w w' := hr.mono fun e w' hp => by
      unfold RdPost at hp; rw [if_pos walDir_named, hf] at hp; exact hp
    have HC := Lib.hid hc
    clear hc hr hf
    unfold walDir at HC
    go_enter Tryz.func29, Tryz.ntmps29
    go_wp2_with (go_at_call 40; refine HC.out.mono ?_; rintro e w1 ⟨rfl, hm1⟩)
    go_ret
    exact ⟨rfl, hm1⟩
  | some f =>
    have hc : Calls Tryz.prog 40 #[.pointer (some ⟨d, 0, none⟩), .string walDir] w fun e w' => ∃ A c n, e = .returned (.tuple #[.slice A n c, .int .i64 0]) ∧ Mod Non w w' := hr.mono fun e w' hp => by
      unfold RdPost at hp; rw [if_pos walDir_named, hf] at hp
      obtain ⟨A, c, h1, _, h2⟩ := hp
      exact ⟨A, c, _, h1, h2⟩
    have HC := Lib.hid hc
    clear hc hr hf
    unfold walDir at HC
    go_enter Tryz.func29, Tryz.ntmps29
    go_wp2_with (go_at_call 40; refine HC.out.mono ?_; rintro e w1 ⟨A1, c1, n1, rfl, hm1⟩)
    go_ret
    exact ⟨rfl, hm1⟩

set_option maxRecDepth 100000 in
set_option maxHeartbeats 400000 in
theorem none_nil (w : World) : Calls Tryz.prog 29 #[.pointer none] w fun e w' => e = .returned (.bool true) ∧ w = w' := by
  have HC := Lib.hid (read_nil walDir w (by decide))
  unfold walDir at HC
  go_enter Tryz.func29, Tryz.ntmps29
  go_wp2_with (go_at_call 40; refine HC.out.mono ?_; rintro e w1 ⟨rfl, rfl⟩)
  go_ret
  exact ⟨rfl, rfl⟩

set_option maxHeartbeats 400000 in
theorem chunks_any (A : Option Addr) (n c : Nat) (w : World) : Calls Tryz.prog 33 #[.slice A n c] w fun e w' => e = .returned (.func (.func 64) #[] #[.pointer (some ⟨w.heap.size, 0, none⟩)]) ∧ w.alloc (.cells #[.slice A n c] 31) = w' := by
  have hmf : ∀ (fn : Fn) (first cap : Array Value) (w : World), (Instr.makeFunc fn first cap).run Tryz.prog w = .ok (.func fn first cap) w := fun _ _ _ _ => rfl
  go_enter Tryz.func33, Tryz.ntmps33
  go_wp2
  go_ret
  exact ⟨rfl, rfl⟩

/-- a segment's file, "" where the number may not be. -/
def nameW (n : Int) : ByteArray := if 0 ≤ n ∧ n ≤ 1099511627776 then walName n.toNat else ⟨#[]⟩
theorem nameW_size (n : Int) : (nameW n).size ≤ 17 := by
  unfold nameW
  split
  · rw [walName_size (by omega)]; omega
  · simp [ByteArray.size]
theorem nameW_yes {n : Int} (h0 : 0 ≤ n) (h1 : n ≤ 1099511627776) : nameW n = walName n.toNat := by unfold nameW; rw [if_pos ⟨h0, h1⟩]
theorem name_any (n : Int) (w : World) (hL : Lay w) : Calls Tryz.prog 9 #[.int .i64 n] w fun e w' => e = .returned (.string (nameW n)) ∧ Mod Non w w' := by
  by_cases h : 0 ≤ n ∧ n ≤ 1099511627776
  · obtain ⟨k, rfl⟩ := Int.eq_ofNat_of_zero_le h.1
    rw [nameW_yes h.1 h.2, Int.toNat_natCast]
    exact (name_yes k w hL (by omega)).mono fun e w' hp => ⟨hp.1, Mod.of_below hp.2⟩
  · have : nameW n = ⟨#[]⟩ := by unfold nameW; rw [if_neg h]
    rw [this]
    exact (name_no n w (by omega)).mono fun e w' hp => ⟨hp.1, by rw [← hp.2]; exact Mod.refl _ _⟩

def needW (D : Dk) (n : Int) (b : List UInt8) : Int := if (findF D.files (nameW n)).isSome = true then (frameB b).length else (frameB b).length + 16 + (nameW n).size

set_option maxRecDepth 100000 in
set_option maxHeartbeats 800000 in
theorem need_any (F : Nat → Prop) (d : Nat) (D : Dk) (n : Int) (A : Option Addr) (m c : Nat) (b : List UInt8) (w : World) (h : DiskIs w F d D) (g : Rd w A m (by8 b)) (hm : m ≤ 140737488300000) :
    Calls Tryz.prog 32 #[.pointer (some ⟨d, 0, none⟩), .int .i64 n, .slice A m c] w fun e w' => e = .returned (.int .i64 (needW D n b)) ∧ Mod Non w w' := by
  have hnl : (frameB b).length ≤ 140737488355328 := by
    have hbl : b.length = m := by simpa using g.1
    have h9 := numB_len9 (n := b.length) (by omega)
    unfold frameB
    simp only [List.length_append, high4, List.length_cons, List.length_nil]
    omega
  have hns := nameW_size n
  obtain ⟨x, hx⟩ : ∃ x, (findF D.files (nameW n)).isSome = x := ⟨_, rfl⟩
  have HX := Lib.hid hx
  have HN : Hid (needW D n b = if x = true then ((frameB b).length : Int) else (frameB b).length + 16 + (nameW n).size) := by show needW D n b = _; unfold needW; rw [hx]
  clear hx
  have hL := h.lay
  have HH := Lib.hid h
  have HL := Lib.hid hL
  clear h hL
  obtain ⟨l, hl⟩ : ∃ l, (frameB b).length = l := ⟨_, rfl⟩
  have HLL := Lib.hid hl
  rw [hl] at hnl HN
  clear hl
  cases x
  all_goals
    go_enter Tryz.func32, Tryz.ntmps32
    go_wp2_with fail
    refine (putFrame_any none A 0 0 m c [] b _ (Rd.nil _ _) g (by omega)).mono ?_
    rintro e w1 ⟨A1, n1, c1, rfl, hn1, ho1, hb1⟩
    rw [List.nil_append, HLL.out] at hn1
    subst hn1
    have hm1 : Mod Non w w1 := Mod.of_below hb1
    clear ho1 hb1
    go_wp2_with fail
    refine (name_any n _ (HL.out.mod0 hm1)).mono ?_
    rintro e w2 ⟨rfl, hm2⟩
    have hm12 := hm1.trans0 hm2
    clear hm2
    go_wp2_with fail
    refine (has_any (nameW n) F d D _ (HH.out.mod0 hm12)).mono ?_
    rintro e w3 ⟨rfl, hm3⟩
    have hm13 := hm12.trans0 hm3
    clear hm3
    rw [HX.out]
    go_wp2_with (go_at_call 9; refine (name_any n _ (HL.out.mod0 hm13)).mono ?_; rintro e w4 ⟨rfl, hm4⟩)
    go_ret
    first
      | exact ⟨by rw [HN.out]; rfl, hm13⟩
      | exact ⟨by rw [HN.out]; rfl, hm13.trans0 hm4⟩

end Go.Proofs.YtgdamcimpgapgaaGreatDoor
