/- the table of the library's that strconv.Itoa reads. -/
import Derived.Test.YtgnpmmhpeianpaaGreatDoorB01
import Derived.Test.YtgnpmmhpeianpaaGreatDoorChecked
import Derived.Lib.LaidTab
import Derived.Lib.ItoaNum
import Derived.Test.YtgnpmmhpeianpaaGreatDoorShelf
namespace Go.Proofs.YtgnpmmhpeianpaaGreatDoor
open Go.RowKit

/-- the table of the library's that strconv.Itoa reads. -/
def Lay (w : World) : Prop := Lib.TabIs Tryz.prog w "internal/strconv.uint64pow10" .u64 Lib.pow10Tab
/-- the block of that table. -/
def powG : Nat := 3
theorem powG_is : Tryz.prog.globalNamed "internal/strconv.uint64pow10" = some powG := by kernel_rfl

theorem Lay.lt {w : World} (h : Lay w) : powG < w.heap.size := World.block_lt_of_cell? w ⟨powG, 0, none⟩ (Lib.TabIs.cell h powG_is 0 (by decide))
theorem Lay.mod {S : Nat → Prop} {w w' : World} (h : Lay w) (hm : Mod S w w') (hS : ¬ S powG) : Lay w' := by
  have hb := hm.block powG h.lt hS
  unfold Lay Lib.TabIs at h ⊢
  unfold World.var? at h ⊢
  rw [powG_is] at h ⊢
  simpa [hb] using h
theorem Lay.mod0 {w w' : World} (h : Lay w) (hm : Mod Non w w') : Lay w' := h.mod hm fun h => h

end Go.Proofs.YtgnpmmhpeianpaaGreatDoor

/- wal.right, wal.Name. -/
namespace Go.Proofs.YtgnpmmhpeianpaaGreatDoor
open Go.RowKit

theorem below_grown0 (w : World) (k : Nat) (os : Array Obj) : Below w.heap.size w (Go.Sort.grow (w.drewN k) os) := by
  refine ⟨rfl, rfl, rfl, by simp [Go.Sort.grow], fun i hi => ?_⟩
  show (w.heap ++ os)[i]? = w.heap[i]?
  rw [Array.getElem?_append_left hi]

set_option maxHeartbeats 400000 in
theorem right_yes (n : Int) (w : World) (h0 : 0 ≤ n) (h1 : n ≤ 1099511627776) : Calls Tryz.prog 125 #[.int .i64 n] w fun e w' => e = .returned (.bool true) ∧ w = w' := by
  go_enter Tryz.func125, Tryz.ntmps125
  go_wp2
  go_ret
  exact ⟨rfl, rfl⟩
set_option maxHeartbeats 400000 in
theorem right_no (n : Int) (w : World) (h : n < 0 ∨ 1099511627776 < n) : Calls Tryz.prog 125 #[.int .i64 n] w fun e w' => e = .returned (.bool false) ∧ w = w' := by
  rcases h with h | h
  · go_enter Tryz.func125, Tryz.ntmps125
    go_wp2
    go_ret
    exact ⟨rfl, rfl⟩
  · have hd : decide (n ≤ 1099511627776) = false := by simp; omega
    have h0 : 0 ≤ n := by omega
    go_enter Tryz.func125, Tryz.ntmps125
    go_wp2
    go_ret
    exact ⟨rfl, rfl⟩

/-- a segment's file. -/
def walName (n : Nat) : ByteArray := ⟨([119, 97, 108, 47] ++ Lib.repeatL [48] (13 - (Lib.decDigits n).length) ++ Lib.decDigits n).toArray⟩
theorem nDigits_le (k : Nat) : ∀ n : Nat, n < 10 ^ (k + 1) → Lib.nDigits n ≤ k + 1 := by
  induction k with
  | zero => intro n hn; rw [Lib.nDigits_small (by simpa using hn)]; omega
  | succ k ih =>
    intro n hn
    by_cases h : n < 10
    · rw [Lib.nDigits_small h]; omega
    · rw [Lib.nDigits, dif_neg h]
      have := ih (n / 10) (by rw [Nat.div_lt_iff_lt_mul (by omega)]; rw [Nat.pow_succ] at hn; omega)
      omega
theorem dec_len {n : Nat} (h : n ≤ 1099511627776) : (Lib.decDigits n).length ≤ 13 := by
  rw [Lib.decDigits_length]
  exact nDigits_le 12 n (by omega)
theorem dec_pos (n : Nat) : 0 < (Lib.decDigits n).length := by
  rw [Lib.decDigits_length, Lib.nDigits]
  split <;> omega
theorem walName_size {n : Nat} (h : n ≤ 1099511627776) : (walName n).size = 17 := by
  have := dec_len h
  simp [walName, Lib.repeatL_length, ByteArray.size]
  omega

set_option maxRecDepth 100000 in
set_option maxHeartbeats 400000 in
theorem name_yes (n : Nat) (w : World) (hL : Lay w) (hn : n ≤ 1099511627776) : Calls Tryz.prog 123 #[.int .i64 n] w fun e w' => e = .returned (.string (walName n)) ∧ Below w.heap.size w w' := by
  have h13 := dec_len hn
  obtain ⟨s1, hs1⟩ : ∃ s : ByteArray, (⟨(Lib.itoa (n : Int)).toArray⟩ : ByteArray) = s := ⟨_, rfl⟩
  obtain ⟨s2, hs2⟩ : ∃ s : ByteArray, (⟨(Lib.repeatL [48] (13 - (Lib.decDigits n).length)).toArray⟩ : ByteArray) = s := ⟨_, rfl⟩
  have hz1 : s1.size = (Lib.decDigits n).length := by rw [← hs1, Lib.itoa_nonneg]; rfl
  have hz2 : s2.size ≤ 13 := by rw [← hs2]; simp [ByteArray.size, Lib.repeatL_length]
  have hfin : (⟨#[119, 97, 108, 47]⟩ : ByteArray) ++ s2 ++ s1 = walName n := by
    rw [← hs1, ← hs2, Lib.itoa_nonneg]
    simp [walName, ByteArray.ext_iff]
  have HS1 := Lib.hid hs1
  have HS2 := Lib.hid hs2
  have HF := Lib.hid hfin
  have hz1' : s1.size ≤ 13 := by omega
  have HZ := Lib.hid hz1
  clear hs1 hs2 hfin hz1
  go_enter Tryz.func123, Tryz.ntmps123
  go_wp2_with (first
    | (go_at_call 125; refine (right_yes _ _ (by omega) (by omega)).mono ?_; rintro e w' ⟨rfl, rfl⟩)
    | (go_at_call 188; refine (Tryz.strconv_Itoa (n : Int) (by omega) (by omega) _ hL).mono ?_; rintro e w1 ⟨rfl, k1, os1, hw1⟩; have hb1 : Below w.heap.size w w1 := by { rw [hw1]; exact below_grown0 _ _ _ }; clear hw1; rw [HS1.out])
    | (go_at_call 189; rw [show ((13 : Int) - (s1.size : Nat)) = ((13 - (Lib.decDigits n).length : Nat) : Int) from by (rw [HZ.out]; omega)]; refine (Tryz.strings_Repeat ⟨#[48]⟩ (13 - (Lib.decDigits n).length) _ (by omega) (by simp [ByteArray.size]; omega)).mono ?_; rintro e w2 ⟨rfl, hb2⟩; rw [show (⟨(Lib.repeatL (ByteArray.mk #[48]).data.toList (13 - (Lib.decDigits n).length)).toArray⟩ : ByteArray) = s2 from HS2.out]))
  go_ret
  refine ⟨?_, hb1.trans (hb2.mono hb1.size)⟩
  exact congrArg (fun s => Ending.returned (.string s)) HF.out

theorem name_no (n : Int) (w : World) (h : n < 0 ∨ 1099511627776 < n) : Calls Tryz.prog 123 #[.int .i64 n] w fun e w' => e = .returned (.string ⟨#[]⟩) ∧ w = w' := by
  go_enter Tryz.func123, Tryz.ntmps123
  go_wp2_with (go_at_call 125; refine (right_no _ _ h).mono ?_; rintro e w' ⟨rfl, rfl⟩)
  go_ret
  exact ⟨rfl, rfl⟩

end Go.Proofs.YtgnpmmhpeianpaaGreatDoor
