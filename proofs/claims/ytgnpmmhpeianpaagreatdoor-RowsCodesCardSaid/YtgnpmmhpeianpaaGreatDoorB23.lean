/- rows: (Head).right. -/
import Derived.Test.YtgnpmmhpeianpaaGreatDoorB09
import Derived.Test.YtgnpmmhpeianpaaGreatDoorB01
import Derived.Test.YtgnpmmhpeianpaaGreatDoorB10
import Derived.Test.YtgnpmmhpeianpaaGreatDoorB04
import Derived.Test.YtgnpmmhpeianpaaGreatDoorB14
import Derived.Deep.RegionHeld3
import Derived.Deep.RegionWith
import Derived.Test.YtgnpmmhpeianpaaGreatDoorB17
import Derived.Deep.QuietTactic
import Derived.BigQuiet
namespace Go.Proofs.YtgnpmmhpeianpaaGreatDoor
open Go.RowKit

/-- the ones of an int's 64 bits. -/
def onesI (n : Int) : Nat := Lib.onesCount (n % 18446744073709551616).toNat
/-- may a head be? -/
def headR (sz : Int) (root : ByteArray) (tk ep : Int) (nodes : List ByteArray) (sig : ByteArray) : Bool := inAll [sz, tk, ep] && (hashAll [root, sig] && (hashAll nodes && decide (nodes.length = onesI sz)))
def hCells (sz : Int) (root : ByteArray) (tk ep : Int) (A : Option Addr) (n c : Nat) (sig : ByteArray) : Array Value := #[.int .i64 sz, .string root, .int .i64 tk, .int .i64 ep, .slice A n c, .string sig]

set_option maxRecDepth 100000 in
set_option maxHeartbeats 4000000 in
theorem headRight_any (sz : Int) (root : ByteArray) (tk ep : Int) (A : Option Addr) (n c : Nat) (nodes : List ByteArray) (sig : ByteArray) (w : World) (hr : Rd w A n (nodes.map Value.string)) (hn : n ≤ 9223372036854775807) :
    Calls Tryz.prog 33 #[.agg (hCells sz root tk ep A n c sig)] w fun e w' => e = .returned (.bool (headR sz root tk ep nodes sig)) ∧ Mod Non w w' := by
  obtain ⟨w0, hw0⟩ : ∃ w0, w0 = w.alloc (.cells (hCells sz root tk ep A n c sig) 37) := ⟨_, rfl⟩
  have hb0 : Blk w0 w.heap.size 37 (hCells sz root tk ep A n c sig) := by rw [hw0]; exact Blk.new _ _ _
  have hm0 : Mod Non w w0 := by rw [hw0]; exact (Mod.refl Non w).alloc _
  unfold hCells at hb0 hw0 ⊢
  have HM := Lib.hid hm0
  have HB := Lib.hid hb0
  have HW0 := Lib.hid hw0
  have HR := Lib.hid (hr.mod0 hm0)
  have HKE : Hid (∀ W, Mod Non w0 W → W.cell? ⟨w.heap.size, 0, none⟩ = some (.int .i64 sz) ∧ W.cell? ⟨w.heap.size, 1, none⟩ = some (.string root) ∧ W.cell? ⟨w.heap.size, 2, none⟩ = some (.int .i64 tk) ∧ W.cell? ⟨w.heap.size, 3, none⟩ = some (.int .i64 ep) ∧ W.cell? ⟨w.heap.size, 4, none⟩ = some (.slice A n c) ∧ W.cell? ⟨w.heap.size, 5, none⟩ = some (.string sig)) :=
    fun W hW => ⟨(HB.out.mod hW fun h => h).cell 0, (HB.out.mod hW fun h => h).cell 1, (HB.out.mod hW fun h => h).cell 2, (HB.out.mod hW fun h => h).cell 3, (HB.out.mod hW fun h => h).cell 4, (HB.out.mod hW fun h => h).cell 5⟩
  have hke0 := HKE.out _ ((Mod.refl Non w0).drew)
  have HMA := Lib.hid (((Mod.refl Non w0).drew).alloc (.cells #[.int .i64 sz, .int .i64 tk, .int .i64 ep] 3))
  have hke1 := HKE.out _ HMA.out
  have HRD := Lib.hid (rd_new w0.drew 3 [.int .i64 sz, .int .i64 tk, .int .i64 ep])
  have HIN := Lib.hid (inR_rows _ 3 3 [sz, tk, ep] _ HRD.out (by omega))
  clear hb0 hm0 hw0 hr
  have HMB := Lib.hid (HMA.out.alloc (.cells #[.string root, .string sig] 9))
  have hke2 := HKE.out _ HMB.out
  have HRE := Lib.hid (rd_new (w0.drew.alloc (.cells #[.int .i64 sz, .int .i64 tk, .int .i64 ep] 3)) 9 [.string root, .string sig])
  have HIS := Lib.hid (isHash_any _ 2 2 [root, sig] _ HRE.out (by omega))
  have HNO := Lib.hid (isHash_any A n c nodes _ (HR.out.mod0 HMB.out) hn)
  obtain ⟨X, hX⟩ : ∃ X : Nat, X = (sz % 18446744073709551616).toNat := ⟨_, rfl⟩
  have hXw : IntKind.u64.wrap sz = (X : Int) := by
    rw [hX]
    unfold IntKind.wrap
    simp [IntKind.signed, IntKind.bits]
    omega
  have hXo : onesI sz = Lib.onesCount X := by rw [hX]; rfl
  have HON := Lib.hid (ones_any X ((w0.drew.alloc (.cells #[.int .i64 sz, .int .i64 tk, .int .i64 ep] 3)).alloc (.cells #[.string root, .string sig] 9)) (by omega))
  have HNL : Hid (nodes.length = n) := by show _ = _; rw [← HR.out.1]; simp
  have HMB := Lib.hid (HMA.out.alloc (.cells #[.string root, .string sig] 9))
  have hke2 := HKE.out _ HMB.out
  have HRE := Lib.hid (rd_new (w0.drew.alloc (.cells #[.int .i64 sz, .int .i64 tk, .int .i64 ep] 3)) 9 [.string root, .string sig])
  have HIS := Lib.hid (isHash_any _ 2 2 [root, sig] _ HRE.out (by omega))
  have HNO := Lib.hid (isHash_any A n c nodes _ (HR.out.mod0 HMB.out) hn)
  obtain ⟨X, hX⟩ : ∃ X : Nat, X = (sz % 18446744073709551616).toNat := ⟨_, rfl⟩
  have hXw : IntKind.u64.wrap sz = (X : Int) := by
    rw [hX]
    unfold IntKind.wrap
    simp [IntKind.signed, IntKind.bits]
    omega
  have hXo : onesI sz = Lib.onesCount X := by rw [hX]; rfl
  have HON := Lib.hid (ones_any X ((w0.drew.alloc (.cells #[.int .i64 sz, .int .i64 tk, .int .i64 ep] 3)).alloc (.cells #[.string root, .string sig] 9)) (by omega))
  have HNL : Hid (nodes.length = n) := by show _ = _; rw [← HR.out.1]; simp
  have HMB := Lib.hid (HMA.out.alloc (.cells #[.string root, .string sig] 9))
  have hke2 := HKE.out _ HMB.out
  have HRE := Lib.hid (rd_new (w0.drew.alloc (.cells #[.int .i64 sz, .int .i64 tk, .int .i64 ep] 3)) 9 [.string root, .string sig])
  have HIS := Lib.hid (isHash_any _ 2 2 [root, sig] _ HRE.out (by omega))
  have HNO := Lib.hid (isHash_any A n c nodes _ (HR.out.mod0 HMB.out) hn)
  obtain ⟨X, hX⟩ : ∃ X : Nat, X = (sz % 18446744073709551616).toNat := ⟨_, rfl⟩
  have hXw : IntKind.u64.wrap sz = (X : Int) := by
    rw [hX]
    unfold IntKind.wrap
    simp [IntKind.signed, IntKind.bits]
    omega
  have hXo : onesI sz = Lib.onesCount X := by rw [hX]; rfl
  have HON := Lib.hid (ones_any X ((w0.drew.alloc (.cells #[.int .i64 sz, .int .i64 tk, .int .i64 ep] 3)).alloc (.cells #[.string root, .string sig] 9)) (by omega))
  have HNL : Hid (nodes.length = n) := by show _ = _; rw [← HR.out.1]; simp
  have HMB := Lib.hid ((((Mod.refl Non w0).alloc (.cells #[.int .i64 sz, .int .i64 tk, .int .i64 ep] 3)).alloc (.cells #[.string root, .string sig] 9)).drew)
  have hke2 := HKE.out _ HMB.out
  have hre := rd_new (w0.alloc (.cells #[.int .i64 sz, .int .i64 tk, .int .i64 ep] 3)) 9 [.string root, .string sig]
  rw [World.size_alloc] at hre
  have HRE := Lib.hid hre.drew
  have HIS := Lib.hid (isHash_any (some ⟨w0.heap.size + 1, 0, none⟩) 2 2 [root, sig] _ HRE.out (by omega))
  clear hre
  have HNO := Lib.hid (isHash_any A n c nodes _ (HR.out.mod0 HMB.out) hn)
  obtain ⟨X, hX⟩ : ∃ X : Nat, X = (sz % 18446744073709551616).toNat := ⟨_, rfl⟩
  have hXw : IntKind.u64.wrap sz = (X : Int) := by
    rw [hX]
    unfold IntKind.wrap
    simp [IntKind.signed, IntKind.bits]
    omega
  have hXo : onesI sz = Lib.onesCount X := by rw [hX]; rfl
  have HON := Lib.hid (ones_any X (((w0.alloc (.cells #[.int .i64 sz, .int .i64 tk, .int .i64 ep] 3)).alloc (.cells #[.string root, .string sig] 9)).drew) (by omega))
  have HNL : Hid (nodes.length = n) := by show _ = _; rw [← HR.out.1]; simp
  have HMB := Lib.hid ((((Mod.refl Non w0).alloc (.cells #[.int .i64 sz, .int .i64 tk, .int .i64 ep] 3)).alloc (.cells #[.string root, .string sig] 9)).drew)
  have hke2 := HKE.out _ HMB.out
  have hre := rd_new (w0.alloc (.cells #[.int .i64 sz, .int .i64 tk, .int .i64 ep] 3)) 9 [.string root, .string sig]
  rw [World.size_alloc] at hre
  have HRE := Lib.hid hre.drew
  have HIS := Lib.hid (isHash_any (some ⟨w0.heap.size + 1, 0, none⟩) 2 2 [root, sig] _ HRE.out (by omega))
  clear hre
  have HNO := Lib.hid (isHash_any A n c nodes _ (HR.out.mod0 HMB.out) hn)
  obtain ⟨X, hX⟩ : ∃ X : Nat, X = (sz % 18446744073709551616).toNat := ⟨_, rfl⟩
  have HXW : Hid (max (sz % 18446744073709551616) 0 = (X : Int)) := by show _ = _; rw [hX]; omega
  have hXo : onesI sz = Lib.onesCount X := by rw [hX]; rfl
  have HON := Lib.hid (ones_any X (((w0.alloc (.cells #[.int .i64 sz, .int .i64 tk, .int .i64 ep] 3)).alloc (.cells #[.string root, .string sig] 9)).drew) (by omega))
  have HNL : Hid (nodes.length = n) := by show _ = _; rw [← HR.out.1]; simp
  have HMB := Lib.hid ((((Mod.refl Non w0).alloc (.cells #[.int .i64 sz, .int .i64 tk, .int .i64 ep] 3)).alloc (.cells #[.string root, .string sig] 9)).drew)
  have hke2 := HKE.out _ HMB.out
  have hre := rd_new (w0.alloc (.cells #[.int .i64 sz, .int .i64 tk, .int .i64 ep] 3)) 9 [.string root, .string sig]
  rw [World.size_alloc] at hre
  have HRE := Lib.hid hre.drew
  have HIS := Lib.hid (isHash_any (some ⟨w0.heap.size + 1, 0, none⟩) 2 2 [root, sig] _ HRE.out (by omega))
  clear hre
  have HNO := Lib.hid (isHash_any A n c nodes _ (HR.out.mod0 HMB.out) hn)
  obtain ⟨X, hX⟩ : ∃ X : Nat, X = (sz % 18446744073709551616).toNat := ⟨_, rfl⟩
  have HXW : Hid (max (sz % 18446744073709551616) 0 = (X : Int)) := by show _ = _; rw [hX]; omega
  have hXo : onesI sz = Lib.onesCount X := by rw [hX]; rfl
  have HON := Lib.hid (ones_any X (((w0.alloc (.cells #[.int .i64 sz, .int .i64 tk, .int .i64 ep] 3)).alloc (.cells #[.string root, .string sig] 9)).drew) (by omega))
  have HNL : Hid (nodes.length = n) := by show _ = _; rw [← HR.out.1]; simp
  unfold headR
  rw [hXo, HNL.out]
  have HEQ : Hid (((n : Int) == (Lib.onesCount X : Int)) = decide (n = Lib.onesCount X)) := by
    show _ = _
    by_cases h0 : n = Lib.onesCount X
    · rw [decide_eq_true h0, h0]; simp
    · rw [decide_eq_false h0, beq_eq_false_iff_ne]; omega
  clear hX hXo
  obtain ⟨b0, e0⟩ : ∃ b, inAll [sz, tk, ep] = b := ⟨_, rfl⟩
  rw [e0] at HIN ⊢
  clear e0
  obtain ⟨b1, e1⟩ : ∃ b, hashAll [root, sig] = b := ⟨_, rfl⟩
  rw [e1] at HIS ⊢
  clear e1
  obtain ⟨b2, e2⟩ : ∃ b, hashAll nodes = b := ⟨_, rfl⟩
  rw [e2] at HNO ⊢
  clear e2
  cases b0 with
  | false =>
    go_enter Tryz.func33, Tryz.ntmps33
    go_wp2_with fail
    rw [← HW0.out]
    refine wp_region_held_drew (S := fun w' => w'.cell? ⟨w.heap.size, 0, none⟩ = some (.int .i64 sz) ∧ w'.cell? ⟨w.heap.size, 1, none⟩ = some (.string root) ∧ w'.cell? ⟨w.heap.size, 2, none⟩ = some (.int .i64 tk) ∧ w'.cell? ⟨w.heap.size, 3, none⟩ = some (.int .i64 ep) ∧ w'.cell? ⟨w.heap.size, 4, none⟩ = some (.slice A n c) ∧ w'.cell? ⟨w.heap.size, 5, none⟩ = some (.string sig)) (by kernel_rfl) (hke0) (fun hHeld => ?_)
    refine wpAnyH_take (i := 0) (oi := { dst := some 3, op := Go.Op.fieldAddr 37 (Go.Operand.tmp 1) 0, type := 0, pos := "rows.go:66", after := #[], guard := none }) (v := ?_) rfl (by kernel_rfl) (by kernel_rfl) (by kernel_rfl) (fun _ _ _ h => h) (Or.inl ⟨by rfl, ?_⟩) hHeld ?_
    rotate_left
    · (intro w0 hS0; (try dsimp only at hS0); go_simp; try with_reducible rfl)
    try simp only [Act.put, List.setIfInBounds_toArray, List.set_cons_zero, List.set_cons_succ]
    refine wpAnyH_take (i := 1) (oi := { dst := some 4, op := Go.Op.load 3 (Go.Operand.tmp 3), type := 3, pos := "rows.go:66", after := #[{ on := 0, ground := Go.Ground.data }], guard := none }) (v := ?_) rfl (by kernel_rfl) (by kernel_rfl) (by kernel_rfl) (fun _ _ _ h => h) (Or.inl ⟨by rfl, ?_⟩) hHeld ?_
    rotate_left
    · (intro w0 hS0; (try dsimp only at hS0); go_simp; try with_reducible rfl)
    try simp only [Act.put, List.setIfInBounds_toArray, List.set_cons_zero, List.set_cons_succ]
    refine wpAnyH_take (i := 2) (oi := { dst := some 5, op := Go.Op.fieldAddr 37 (Go.Operand.tmp 1) 2, type := 0, pos := "rows.go:66", after := #[], guard := none }) (v := ?_) rfl (by kernel_rfl) (by kernel_rfl) (by kernel_rfl) (fun _ _ _ h => h) (Or.inl ⟨by rfl, ?_⟩) hHeld ?_
    rotate_left
    · (intro w0 hS0; (try dsimp only at hS0); go_simp; try with_reducible rfl)
    try simp only [Act.put, List.setIfInBounds_toArray, List.set_cons_zero, List.set_cons_succ]
    refine wpAnyH_take (i := 3) (oi := { dst := some 6, op := Go.Op.load 3 (Go.Operand.tmp 5), type := 3, pos := "rows.go:66", after := #[{ on := 2, ground := Go.Ground.data }], guard := none }) (v := ?_) rfl (by kernel_rfl) (by kernel_rfl) (by kernel_rfl) (fun _ _ _ h => h) (Or.inl ⟨by rfl, ?_⟩) hHeld ?_
    rotate_left
    · (intro w0 hS0; (try dsimp only at hS0); go_simp; try with_reducible rfl)
    try simp only [Act.put, List.setIfInBounds_toArray, List.set_cons_zero, List.set_cons_succ]
    refine wpAnyH_take (i := 4) (oi := { dst := some 7, op := Go.Op.fieldAddr 37 (Go.Operand.tmp 1) 3, type := 0, pos := "rows.go:66", after := #[], guard := none }) (v := ?_) rfl (by kernel_rfl) (by kernel_rfl) (by kernel_rfl) (fun _ _ _ h => h) (Or.inl ⟨by rfl, ?_⟩) hHeld ?_
    rotate_left
    · (intro w0 hS0; (try dsimp only at hS0); go_simp; try with_reducible rfl)
    try simp only [Act.put, List.setIfInBounds_toArray, List.set_cons_zero, List.set_cons_succ]
    refine wpAnyH_take (i := 5) (oi := { dst := some 8, op := Go.Op.load 3 (Go.Operand.tmp 7), type := 3, pos := "rows.go:66", after := #[{ on := 4, ground := Go.Ground.data }], guard := none }) (v := ?_) rfl (by kernel_rfl) (by kernel_rfl) (by kernel_rfl) (fun _ _ _ h => h) (Or.inl ⟨by rfl, ?_⟩) hHeld ?_
    rotate_left
    · (intro w0 hS0; (try dsimp only at hS0); go_simp; try with_reducible rfl)
    try simp only [Act.put, List.setIfInBounds_toArray, List.set_cons_zero, List.set_cons_succ]
    refine wpAnyH_ready (rs := [6]) (by kernel_rfl) (by simp) (AllReadyH.cons (o := { dst := some 9, op := Go.Op.buildSlice 71 3 #[(0, Go.Operand.tmp 4), (1, Go.Operand.tmp 6), (2, Go.Operand.tmp 8)], type := 71, pos := "rows.go:66", after := #[{ on := 1, ground := Go.Ground.data }, { on := 3, ground := Go.Ground.data }, { on := 5, ground := Go.Ground.data }], guard := none }) rfl (fun K hK => ?_) AllReadyH.nil)
    go_simp
    refine hK.out _ _ (hke1) (fun hHeld2 => ?_)
    clear hK K hHeld
    rename _ => hHeld
    try simp only [Act.put, List.setIfInBounds_toArray, List.set_cons_zero, List.set_cons_succ]
    refine wpAnyH_ready (rs := [7]) (by kernel_rfl) (by simp) (AllReadyH.cons (o := { dst := some 10, op := Go.Op.call { callee := Go.Callee.value (Go.Operand.func 59), args := #[Go.Operand.tmp 9], argTypes := #[71] }, type := 4, pos := "rows.go:66", after := #[{ on := 6, ground := Go.Ground.data }], guard := none }) rfl (fun K hK => ?_) AllReadyH.nil)
    go_simp
    refine HIN.out.mono ?_
    rintro e w2 ⟨rfl, rfl⟩
    refine hK.out _ _ (hke1) (fun hHeld2 => ?_)
    clear hK K hHeld
    rename _ => hHeld
    try simp only [Act.put, List.setIfInBounds_toArray, List.set_cons_zero, List.set_cons_succ]
    refine wpAnyH_take (i := 8) (oi := { dst := some 11, op := Go.Op.move (Go.Operand.tmp 10), type := 4, pos := "rows.go:66", after := #[{ on := 7, ground := Go.Ground.data }, { on := 7, ground := Go.Ground.chain }], guard := none }) (v := ?_) rfl (by kernel_rfl) (by kernel_rfl) (by kernel_rfl) (fun _ _ _ h => h) (Or.inl ⟨by rfl, ?_⟩) hHeld ?_
    rotate_left
    · (intro w0 hS0; (try dsimp only at hS0); go_simp; try with_reducible rfl)
    try simp only [Act.put, List.setIfInBounds_toArray, List.set_cons_zero, List.set_cons_succ]
    refine wpAnyH_take (i := 9) (oi := { dst := some 12, op := Go.Op.fieldAddr 37 (Go.Operand.tmp 1) 1, type := 0, pos := "rows.go:66", after := #[{ on := 8, ground := Go.Ground.guard }], guard := some (8, true) }) (v := undef) rfl (by kernel_rfl) (by kernel_rfl) (by kernel_rfl) (fun _ _ _ h => h) (Or.inr ⟨by rfl, rfl⟩) hHeld ?_
    try simp only [Act.put, List.setIfInBounds_toArray, List.set_cons_zero, List.set_cons_succ]
    refine wpAnyH_take (i := 10) (oi := { dst := some 13, op := Go.Op.load 9 (Go.Operand.tmp 12), type := 9, pos := "rows.go:66", after := #[{ on := 9, ground := Go.Ground.data }, { on := 8, ground := Go.Ground.guard }], guard := some (8, true) }) (v := undef) rfl (by kernel_rfl) (by kernel_rfl) (by kernel_rfl) (fun _ _ _ h => h) (Or.inr ⟨by rfl, rfl⟩) hHeld ?_
    try simp only [Act.put, List.setIfInBounds_toArray, List.set_cons_zero, List.set_cons_succ]
    refine wpAnyH_take (i := 11) (oi := { dst := some 14, op := Go.Op.fieldAddr 37 (Go.Operand.tmp 1) 5, type := 0, pos := "rows.go:66", after := #[{ on := 8, ground := Go.Ground.guard }], guard := some (8, true) }) (v := undef) rfl (by kernel_rfl) (by kernel_rfl) (by kernel_rfl) (fun _ _ _ h => h) (Or.inr ⟨by rfl, rfl⟩) hHeld ?_
    try simp only [Act.put, List.setIfInBounds_toArray, List.set_cons_zero, List.set_cons_succ]
    refine wpAnyH_take (i := 12) (oi := { dst := some 15, op := Go.Op.load 9 (Go.Operand.tmp 14), type := 9, pos := "rows.go:66", after := #[{ on := 11, ground := Go.Ground.data }, { on := 8, ground := Go.Ground.guard }], guard := some (8, true) }) (v := undef) rfl (by kernel_rfl) (by kernel_rfl) (by kernel_rfl) (fun _ _ _ h => h) (Or.inr ⟨by rfl, rfl⟩) hHeld ?_
    try simp only [Act.put, List.setIfInBounds_toArray, List.set_cons_zero, List.set_cons_succ]
    refine wpAnyH_take (i := 13) (oi := { dst := some 16, op := Go.Op.buildSlice 24 2 #[(0, Go.Operand.tmp 13), (1, Go.Operand.tmp 15)], type := 24, pos := "rows.go:66", after := #[{ on := 10, ground := Go.Ground.data }, { on := 12, ground := Go.Ground.data }, { on := 8, ground := Go.Ground.guard }], guard := some (8, true) }) (v := undef) rfl (by kernel_rfl) (by kernel_rfl) (by kernel_rfl) (fun _ _ _ h => h) (Or.inr ⟨by rfl, rfl⟩) hHeld ?_
    try simp only [Act.put, List.setIfInBounds_toArray, List.set_cons_zero, List.set_cons_succ]
    refine wpAnyH_take (i := 14) (oi := { dst := some 17, op := Go.Op.call { callee := Go.Callee.value (Go.Operand.func 53), args := #[Go.Operand.tmp 16], argTypes := #[24] }, type := 4, pos := "rows.go:66", after := #[{ on := 13, ground := Go.Ground.data }, { on := 8, ground := Go.Ground.chain }, { on := 8, ground := Go.Ground.guard }], guard := some (8, true) }) (v := undef) rfl (by kernel_rfl) (by kernel_rfl) (by kernel_rfl) (fun _ _ _ h => h) (Or.inr ⟨by rfl, rfl⟩) hHeld ?_
    try simp only [Act.put, List.setIfInBounds_toArray, List.set_cons_zero, List.set_cons_succ]
    refine wpAnyH_take (i := 15) (oi := { dst := some 18, op := Go.Op.pick (Go.Operand.tmp 11) (Go.Operand.tmp 17) (Go.Operand.const (Go.Value.bool false)), type := 4, pos := "rows.go:66", after := #[{ on := 8, ground := Go.Ground.data }, { on := 14, ground := Go.Ground.data }], guard := none }) (v := ?_) rfl (by kernel_rfl) (by kernel_rfl) (by kernel_rfl) (fun _ _ _ h => h) (Or.inl ⟨by rfl, ?_⟩) hHeld ?_
    rotate_left
    · (intro w0 hS0; (try dsimp only at hS0); go_simp; try with_reducible rfl)
    try simp only [Act.put, List.setIfInBounds_toArray, List.set_cons_zero, List.set_cons_succ]
    refine wpAnyH_take (i := 16) (oi := { dst := some 19, op := Go.Op.move (Go.Operand.tmp 18), type := 4, pos := "rows.go:66", after := #[{ on := 15, ground := Go.Ground.data }, { on := 14, ground := Go.Ground.chain }], guard := none }) (v := ?_) rfl (by kernel_rfl) (by kernel_rfl) (by kernel_rfl) (fun _ _ _ h => h) (Or.inl ⟨by rfl, ?_⟩) hHeld ?_
    rotate_left
    · (intro w0 hS0; (try dsimp only at hS0); go_simp; try with_reducible rfl)
    try simp only [Act.put, List.setIfInBounds_toArray, List.set_cons_zero, List.set_cons_succ]
    refine wpAnyH_take (i := 17) (oi := { dst := some 20, op := Go.Op.fieldAddr 37 (Go.Operand.tmp 1) 4, type := 0, pos := "rows.go:66", after := #[{ on := 16, ground := Go.Ground.guard }], guard := some (16, true) }) (v := undef) rfl (by kernel_rfl) (by kernel_rfl) (by kernel_rfl) (fun _ _ _ h => h) (Or.inr ⟨by rfl, rfl⟩) hHeld ?_
    try simp only [Act.put, List.setIfInBounds_toArray, List.set_cons_zero, List.set_cons_succ]
    refine wpAnyH_take (i := 18) (oi := { dst := some 21, op := Go.Op.load 24 (Go.Operand.tmp 20), type := 24, pos := "rows.go:66", after := #[{ on := 17, ground := Go.Ground.data }, { on := 16, ground := Go.Ground.guard }], guard := some (16, true) }) (v := undef) rfl (by kernel_rfl) (by kernel_rfl) (by kernel_rfl) (fun _ _ _ h => h) (Or.inr ⟨by rfl, rfl⟩) hHeld ?_
    try simp only [Act.put, List.setIfInBounds_toArray, List.set_cons_zero, List.set_cons_succ]
    refine wpAnyH_take (i := 19) (oi := { dst := some 22, op := Go.Op.call { callee := Go.Callee.value (Go.Operand.func 53), args := #[Go.Operand.tmp 21], argTypes := #[24] }, type := 4, pos := "rows.go:66", after := #[{ on := 18, ground := Go.Ground.data }, { on := 16, ground := Go.Ground.chain }, { on := 16, ground := Go.Ground.guard }], guard := some (16, true) }) (v := undef) rfl (by kernel_rfl) (by kernel_rfl) (by kernel_rfl) (fun _ _ _ h => h) (Or.inr ⟨by rfl, rfl⟩) hHeld ?_
    try simp only [Act.put, List.setIfInBounds_toArray, List.set_cons_zero, List.set_cons_succ]
    refine wpAnyH_take (i := 20) (oi := { dst := some 23, op := Go.Op.pick (Go.Operand.tmp 19) (Go.Operand.tmp 22) (Go.Operand.const (Go.Value.bool false)), type := 4, pos := "rows.go:66", after := #[{ on := 16, ground := Go.Ground.data }, { on := 19, ground := Go.Ground.data }], guard := none }) (v := ?_) rfl (by kernel_rfl) (by kernel_rfl) (by kernel_rfl) (fun _ _ _ h => h) (Or.inl ⟨by rfl, ?_⟩) hHeld ?_
    rotate_left
    · (intro w0 hS0; (try dsimp only at hS0); go_simp; try with_reducible rfl)
    try simp only [Act.put, List.setIfInBounds_toArray, List.set_cons_zero, List.set_cons_succ]
    refine wpAnyH_take (i := 21) (oi := { dst := some 24, op := Go.Op.move (Go.Operand.tmp 23), type := 4, pos := "rows.go:66", after := #[{ on := 20, ground := Go.Ground.data }, { on := 19, ground := Go.Ground.chain }], guard := none }) (v := ?_) rfl (by kernel_rfl) (by kernel_rfl) (by kernel_rfl) (fun _ _ _ h => h) (Or.inl ⟨by rfl, ?_⟩) hHeld ?_
    rotate_left
    · (intro w0 hS0; (try dsimp only at hS0); go_simp; try with_reducible rfl)
    try simp only [Act.put, List.setIfInBounds_toArray, List.set_cons_zero, List.set_cons_succ]
    refine wpAnyH_take (i := 22) (oi := { dst := some 25, op := Go.Op.fieldAddr 37 (Go.Operand.tmp 1) 4, type := 0, pos := "rows.go:66", after := #[{ on := 21, ground := Go.Ground.guard }], guard := some (21, true) }) (v := undef) rfl (by kernel_rfl) (by kernel_rfl) (by kernel_rfl) (fun _ _ _ h => h) (Or.inr ⟨by rfl, rfl⟩) hHeld ?_
    try simp only [Act.put, List.setIfInBounds_toArray, List.set_cons_zero, List.set_cons_succ]
    refine wpAnyH_take (i := 23) (oi := { dst := some 26, op := Go.Op.load 24 (Go.Operand.tmp 25), type := 24, pos := "rows.go:66", after := #[{ on := 22, ground := Go.Ground.data }, { on := 21, ground := Go.Ground.guard }], guard := some (21, true) }) (v := undef) rfl (by kernel_rfl) (by kernel_rfl) (by kernel_rfl) (fun _ _ _ h => h) (Or.inr ⟨by rfl, rfl⟩) hHeld ?_
    try simp only [Act.put, List.setIfInBounds_toArray, List.set_cons_zero, List.set_cons_succ]
    refine wpAnyH_take (i := 24) (oi := { dst := some 27, op := Go.Op.call { callee := Go.Callee.builtin Go.Builtin.len, args := #[Go.Operand.tmp 26], argTypes := #[24] }, type := 3, pos := "rows.go:66", after := #[{ on := 23, ground := Go.Ground.data }, { on := 21, ground := Go.Ground.guard }], guard := some (21, true) }) (v := undef) rfl (by kernel_rfl) (by kernel_rfl) (by kernel_rfl) (fun _ _ _ h => h) (Or.inr ⟨by rfl, rfl⟩) hHeld ?_
    try simp only [Act.put, List.setIfInBounds_toArray, List.set_cons_zero, List.set_cons_succ]
    refine wpAnyH_take (i := 25) (oi := { dst := some 28, op := Go.Op.fieldAddr 37 (Go.Operand.tmp 1) 0, type := 0, pos := "rows.go:66", after := #[{ on := 21, ground := Go.Ground.guard }], guard := some (21, true) }) (v := undef) rfl (by kernel_rfl) (by kernel_rfl) (by kernel_rfl) (fun _ _ _ h => h) (Or.inr ⟨by rfl, rfl⟩) hHeld ?_
    try simp only [Act.put, List.setIfInBounds_toArray, List.set_cons_zero, List.set_cons_succ]
    refine wpAnyH_take (i := 26) (oi := { dst := some 29, op := Go.Op.load 3 (Go.Operand.tmp 28), type := 3, pos := "rows.go:66", after := #[{ on := 25, ground := Go.Ground.data }, { on := 21, ground := Go.Ground.guard }], guard := some (21, true) }) (v := undef) rfl (by kernel_rfl) (by kernel_rfl) (by kernel_rfl) (fun _ _ _ h => h) (Or.inr ⟨by rfl, rfl⟩) hHeld ?_
    try simp only [Act.put, List.setIfInBounds_toArray, List.set_cons_zero, List.set_cons_succ]
    refine wpAnyH_take (i := 27) (oi := { dst := some 30, op := Go.Op.convert 3 107 (Go.Operand.tmp 29), type := 107, pos := "rows.go:66", after := #[{ on := 26, ground := Go.Ground.data }, { on := 21, ground := Go.Ground.guard }], guard := some (21, true) }) (v := undef) rfl (by kernel_rfl) (by kernel_rfl) (by kernel_rfl) (fun _ _ _ h => h) (Or.inr ⟨by rfl, rfl⟩) hHeld ?_
    try simp only [Act.put, List.setIfInBounds_toArray, List.set_cons_zero, List.set_cons_succ]
    refine wpAnyH_take (i := 28) (oi := { dst := some 31, op := Go.Op.call { callee := Go.Callee.value (Go.Operand.func 60), args := #[Go.Operand.tmp 30], argTypes := #[107] }, type := 3, pos := "rows.go:66", after := #[{ on := 27, ground := Go.Ground.data }, { on := 21, ground := Go.Ground.chain }, { on := 21, ground := Go.Ground.guard }], guard := some (21, true) }) (v := undef) rfl (by kernel_rfl) (by kernel_rfl) (by kernel_rfl) (fun _ _ _ h => h) (Or.inr ⟨by rfl, rfl⟩) hHeld ?_
    try simp only [Act.put, List.setIfInBounds_toArray, List.set_cons_zero, List.set_cons_succ]
    refine wpAnyH_take (i := 29) (oi := { dst := some 32, op := Go.Op.binOp Go.BinOp.eql 3 (Go.Operand.tmp 27) (Go.Operand.tmp 31) 3, type := 4, pos := "rows.go:66", after := #[{ on := 24, ground := Go.Ground.data }, { on := 28, ground := Go.Ground.data }, { on := 21, ground := Go.Ground.guard }], guard := some (21, true) }) (v := undef) rfl (by kernel_rfl) (by kernel_rfl) (by kernel_rfl) (fun _ _ _ h => h) (Or.inr ⟨by rfl, rfl⟩) hHeld ?_
    try simp only [Act.put, List.setIfInBounds_toArray, List.set_cons_zero, List.set_cons_succ]
    refine wpAnyH_take (i := 30) (oi := { dst := some 33, op := Go.Op.pick (Go.Operand.tmp 24) (Go.Operand.tmp 32) (Go.Operand.const (Go.Value.bool false)), type := 4, pos := "rows.go:66", after := #[{ on := 21, ground := Go.Ground.data }, { on := 29, ground := Go.Ground.data }], guard := none }) (v := ?_) rfl (by kernel_rfl) (by kernel_rfl) (by kernel_rfl) (fun _ _ _ h => h) (Or.inl ⟨by rfl, ?_⟩) hHeld ?_
    rotate_left
    · (intro w0 hS0; (try dsimp only at hS0); go_simp; try with_reducible rfl)
    try simp only [Act.put, List.setIfInBounds_toArray, List.set_cons_zero, List.set_cons_succ]
    refine wpAnyH_take (i := 31) (oi := { dst := some 2, op := Go.Op.assign (Go.Operand.tmp 33), type := 4, pos := "rows.go:66", after := #[{ on := 30, ground := Go.Ground.data }, { on := 28, ground := Go.Ground.chain }, { on := 0, ground := Go.Ground.phase }, { on := 1, ground := Go.Ground.phase }, { on := 2, ground := Go.Ground.phase }, { on := 3, ground := Go.Ground.phase }, { on := 4, ground := Go.Ground.phase }, { on := 5, ground := Go.Ground.phase }, { on := 6, ground := Go.Ground.phase }, { on := 7, ground := Go.Ground.phase }, { on := 8, ground := Go.Ground.phase }, { on := 9, ground := Go.Ground.phase }, { on := 10, ground := Go.Ground.phase }, { on := 11, ground := Go.Ground.phase }, { on := 12, ground := Go.Ground.phase }, { on := 13, ground := Go.Ground.phase }, { on := 14, ground := Go.Ground.phase }, { on := 15, ground := Go.Ground.phase }, { on := 16, ground := Go.Ground.phase }, { on := 17, ground := Go.Ground.phase }, { on := 18, ground := Go.Ground.phase }, { on := 19, ground := Go.Ground.phase }, { on := 20, ground := Go.Ground.phase }, { on := 21, ground := Go.Ground.phase }, { on := 22, ground := Go.Ground.phase }, { on := 23, ground := Go.Ground.phase }, { on := 24, ground := Go.Ground.phase }, { on := 25, ground := Go.Ground.phase }, { on := 26, ground := Go.Ground.phase }, { on := 27, ground := Go.Ground.phase }, { on := 28, ground := Go.Ground.phase }, { on := 29, ground := Go.Ground.phase }, { on := 30, ground := Go.Ground.phase }], guard := none }) (v := ?_) rfl (by kernel_rfl) (by kernel_rfl) (by kernel_rfl) (fun _ _ _ h => h) (Or.inl ⟨by rfl, ?_⟩) hHeld ?_
    rotate_left
    · (intro w0 hS0; (try dsimp only at hS0); go_simp; try with_reducible rfl)
    try simp only [Act.put, List.setIfInBounds_toArray, List.set_cons_zero, List.set_cons_succ]
    refine wpAnyH_done (by kernel_rfl) ?_ _
    go_wp2_with fail
    go_ret
    exact ⟨rfl, HM.out.trans0 HMA.out⟩
  | true =>
    cases b1 with
    | false =>
      go_enter Tryz.func33, Tryz.ntmps33
      go_wp2_with fail
      rw [← HW0.out]
      refine wp_region_held_drew (S := fun w' => w'.cell? ⟨w.heap.size, 0, none⟩ = some (.int .i64 sz) ∧ w'.cell? ⟨w.heap.size, 1, none⟩ = some (.string root) ∧ w'.cell? ⟨w.heap.size, 2, none⟩ = some (.int .i64 tk) ∧ w'.cell? ⟨w.heap.size, 3, none⟩ = some (.int .i64 ep) ∧ w'.cell? ⟨w.heap.size, 4, none⟩ = some (.slice A n c) ∧ w'.cell? ⟨w.heap.size, 5, none⟩ = some (.string sig)) (by kernel_rfl) (hke0) (fun hHeld => ?_)
      refine wpAnyH_take (i := 0) (oi := { dst := some 3, op := Go.Op.fieldAddr 37 (Go.Operand.tmp 1) 0, type := 0, pos := "rows.go:66", after := #[], guard := none }) (v := ?_) rfl (by kernel_rfl) (by kernel_rfl) (by kernel_rfl) (fun _ _ _ h => h) (Or.inl ⟨by rfl, ?_⟩) hHeld ?_
      rotate_left
      · (intro w0 hS0; (try dsimp only at hS0); go_simp; try with_reducible rfl)
      try simp only [Act.put, List.setIfInBounds_toArray, List.set_cons_zero, List.set_cons_succ]
      refine wpAnyH_take (i := 1) (oi := { dst := some 4, op := Go.Op.load 3 (Go.Operand.tmp 3), type := 3, pos := "rows.go:66", after := #[{ on := 0, ground := Go.Ground.data }], guard := none }) (v := ?_) rfl (by kernel_rfl) (by kernel_rfl) (by kernel_rfl) (fun _ _ _ h => h) (Or.inl ⟨by rfl, ?_⟩) hHeld ?_
      rotate_left
      · (intro w0 hS0; (try dsimp only at hS0); go_simp; try with_reducible rfl)
      try simp only [Act.put, List.setIfInBounds_toArray, List.set_cons_zero, List.set_cons_succ]
      refine wpAnyH_take (i := 2) (oi := { dst := some 5, op := Go.Op.fieldAddr 37 (Go.Operand.tmp 1) 2, type := 0, pos := "rows.go:66", after := #[], guard := none }) (v := ?_) rfl (by kernel_rfl) (by kernel_rfl) (by kernel_rfl) (fun _ _ _ h => h) (Or.inl ⟨by rfl, ?_⟩) hHeld ?_
      rotate_left
      · (intro w0 hS0; (try dsimp only at hS0); go_simp; try with_reducible rfl)
      try simp only [Act.put, List.setIfInBounds_toArray, List.set_cons_zero, List.set_cons_succ]
      refine wpAnyH_take (i := 3) (oi := { dst := some 6, op := Go.Op.load 3 (Go.Operand.tmp 5), type := 3, pos := "rows.go:66", after := #[{ on := 2, ground := Go.Ground.data }], guard := none }) (v := ?_) rfl (by kernel_rfl) (by kernel_rfl) (by kernel_rfl) (fun _ _ _ h => h) (Or.inl ⟨by rfl, ?_⟩) hHeld ?_
      rotate_left
      · (intro w0 hS0; (try dsimp only at hS0); go_simp; try with_reducible rfl)
      try simp only [Act.put, List.setIfInBounds_toArray, List.set_cons_zero, List.set_cons_succ]
      refine wpAnyH_take (i := 4) (oi := { dst := some 7, op := Go.Op.fieldAddr 37 (Go.Operand.tmp 1) 3, type := 0, pos := "rows.go:66", after := #[], guard := none }) (v := ?_) rfl (by kernel_rfl) (by kernel_rfl) (by kernel_rfl) (fun _ _ _ h => h) (Or.inl ⟨by rfl, ?_⟩) hHeld ?_
      rotate_left
      · (intro w0 hS0; (try dsimp only at hS0); go_simp; try with_reducible rfl)
      try simp only [Act.put, List.setIfInBounds_toArray, List.set_cons_zero, List.set_cons_succ]
      refine wpAnyH_take (i := 5) (oi := { dst := some 8, op := Go.Op.load 3 (Go.Operand.tmp 7), type := 3, pos := "rows.go:66", after := #[{ on := 4, ground := Go.Ground.data }], guard := none }) (v := ?_) rfl (by kernel_rfl) (by kernel_rfl) (by kernel_rfl) (fun _ _ _ h => h) (Or.inl ⟨by rfl, ?_⟩) hHeld ?_
      rotate_left
      · (intro w0 hS0; (try dsimp only at hS0); go_simp; try with_reducible rfl)
      try simp only [Act.put, List.setIfInBounds_toArray, List.set_cons_zero, List.set_cons_succ]
      refine wpAnyH_ready (rs := [6]) (by kernel_rfl) (by simp) (AllReadyH.cons (o := { dst := some 9, op := Go.Op.buildSlice 71 3 #[(0, Go.Operand.tmp 4), (1, Go.Operand.tmp 6), (2, Go.Operand.tmp 8)], type := 71, pos := "rows.go:66", after := #[{ on := 1, ground := Go.Ground.data }, { on := 3, ground := Go.Ground.data }, { on := 5, ground := Go.Ground.data }], guard := none }) rfl (fun K hK => ?_) AllReadyH.nil)
      go_simp
      refine hK.out _ _ (hke1) (fun hHeld2 => ?_)
      clear hK K hHeld
      rename _ => hHeld
      try simp only [Act.put, List.setIfInBounds_toArray, List.set_cons_zero, List.set_cons_succ]
      refine wpAnyH_ready (rs := [7]) (by kernel_rfl) (by simp) (AllReadyH.cons (o := { dst := some 10, op := Go.Op.call { callee := Go.Callee.value (Go.Operand.func 59), args := #[Go.Operand.tmp 9], argTypes := #[71] }, type := 4, pos := "rows.go:66", after := #[{ on := 6, ground := Go.Ground.data }], guard := none }) rfl (fun K hK => ?_) AllReadyH.nil)
      go_simp
      refine HIN.out.mono ?_
      rintro e w2 ⟨rfl, rfl⟩
      refine hK.out _ _ (hke1) (fun hHeld2 => ?_)
      clear hK K hHeld
      rename _ => hHeld
      try simp only [Act.put, List.setIfInBounds_toArray, List.set_cons_zero, List.set_cons_succ]
      refine wpAnyH_take (i := 8) (oi := { dst := some 11, op := Go.Op.move (Go.Operand.tmp 10), type := 4, pos := "rows.go:66", after := #[{ on := 7, ground := Go.Ground.data }, { on := 7, ground := Go.Ground.chain }], guard := none }) (v := ?_) rfl (by kernel_rfl) (by kernel_rfl) (by kernel_rfl) (fun _ _ _ h => h) (Or.inl ⟨by rfl, ?_⟩) hHeld ?_
      rotate_left
      · (intro w0 hS0; (try dsimp only at hS0); go_simp; try with_reducible rfl)
      try simp only [Act.put, List.setIfInBounds_toArray, List.set_cons_zero, List.set_cons_succ]
      refine wpAnyH_take (i := 9) (oi := { dst := some 12, op := Go.Op.fieldAddr 37 (Go.Operand.tmp 1) 1, type := 0, pos := "rows.go:66", after := #[{ on := 8, ground := Go.Ground.guard }], guard := some (8, true) }) (v := ?_) rfl (by kernel_rfl) (by kernel_rfl) (by kernel_rfl) (fun _ _ _ h => h) (Or.inl ⟨by rfl, ?_⟩) hHeld ?_
      rotate_left
      · (intro w0 hS0; (try dsimp only at hS0); go_simp; try with_reducible rfl)
      try simp only [Act.put, List.setIfInBounds_toArray, List.set_cons_zero, List.set_cons_succ]
      refine wpAnyH_take (i := 10) (oi := { dst := some 13, op := Go.Op.load 9 (Go.Operand.tmp 12), type := 9, pos := "rows.go:66", after := #[{ on := 9, ground := Go.Ground.data }, { on := 8, ground := Go.Ground.guard }], guard := some (8, true) }) (v := ?_) rfl (by kernel_rfl) (by kernel_rfl) (by kernel_rfl) (fun _ _ _ h => h) (Or.inl ⟨by rfl, ?_⟩) hHeld ?_
      rotate_left
      · (intro w0 hS0; (try dsimp only at hS0); go_simp; try with_reducible rfl)
      try simp only [Act.put, List.setIfInBounds_toArray, List.set_cons_zero, List.set_cons_succ]
      refine wpAnyH_take (i := 11) (oi := { dst := some 14, op := Go.Op.fieldAddr 37 (Go.Operand.tmp 1) 5, type := 0, pos := "rows.go:66", after := #[{ on := 8, ground := Go.Ground.guard }], guard := some (8, true) }) (v := ?_) rfl (by kernel_rfl) (by kernel_rfl) (by kernel_rfl) (fun _ _ _ h => h) (Or.inl ⟨by rfl, ?_⟩) hHeld ?_
      rotate_left
      · (intro w0 hS0; (try dsimp only at hS0); go_simp; try with_reducible rfl)
      try simp only [Act.put, List.setIfInBounds_toArray, List.set_cons_zero, List.set_cons_succ]
      refine wpAnyH_take (i := 12) (oi := { dst := some 15, op := Go.Op.load 9 (Go.Operand.tmp 14), type := 9, pos := "rows.go:66", after := #[{ on := 11, ground := Go.Ground.data }, { on := 8, ground := Go.Ground.guard }], guard := some (8, true) }) (v := ?_) rfl (by kernel_rfl) (by kernel_rfl) (by kernel_rfl) (fun _ _ _ h => h) (Or.inl ⟨by rfl, ?_⟩) hHeld ?_
      rotate_left
      · (intro w0 hS0; (try dsimp only at hS0); go_simp; try with_reducible rfl)
      try simp only [Act.put, List.setIfInBounds_toArray, List.set_cons_zero, List.set_cons_succ]
      refine wpAnyH_ready (rs := [13]) (by kernel_rfl) (by simp) (AllReadyH.cons (o := { dst := some 16, op := Go.Op.buildSlice 24 2 #[(0, Go.Operand.tmp 13), (1, Go.Operand.tmp 15)], type := 24, pos := "rows.go:66", after := #[{ on := 10, ground := Go.Ground.data }, { on := 12, ground := Go.Ground.data }, { on := 8, ground := Go.Ground.guard }], guard := some (8, true) }) rfl (fun K hK => ?_) AllReadyH.nil)
      go_simp
      refine hK.out _ _ (hke2) (fun hHeld2 => ?_)
      clear hK K hHeld
      rename _ => hHeld
      try simp only [Act.put, List.setIfInBounds_toArray, List.set_cons_zero, List.set_cons_succ]
      refine wpAnyH_ready (rs := [14]) (by kernel_rfl) (by simp) (AllReadyH.cons (o := { dst := some 17, op := Go.Op.call { callee := Go.Callee.value (Go.Operand.func 53), args := #[Go.Operand.tmp 16], argTypes := #[24] }, type := 4, pos := "rows.go:66", after := #[{ on := 13, ground := Go.Ground.data }, { on := 8, ground := Go.Ground.chain }, { on := 8, ground := Go.Ground.guard }], guard := some (8, true) }) rfl (fun K hK => ?_) AllReadyH.nil)
      go_simp
      refine HIS.out.mono ?_
      rintro e w3 ⟨rfl, rfl⟩
      refine hK.out _ _ (hke2) (fun hHeld2 => ?_)
      clear hK K hHeld
      rename _ => hHeld
      try simp only [Act.put, List.setIfInBounds_toArray, List.set_cons_zero, List.set_cons_succ]
      refine wpAnyH_take (i := 15) (oi := { dst := some 18, op := Go.Op.pick (Go.Operand.tmp 11) (Go.Operand.tmp 17) (Go.Operand.const (Go.Value.bool false)), type := 4, pos := "rows.go:66", after := #[{ on := 8, ground := Go.Ground.data }, { on := 14, ground := Go.Ground.data }], guard := none }) (v := ?_) rfl (by kernel_rfl) (by kernel_rfl) (by kernel_rfl) (fun _ _ _ h => h) (Or.inl ⟨by rfl, ?_⟩) hHeld ?_
      rotate_left
      · (intro w0 hS0; (try dsimp only at hS0); go_simp; try with_reducible rfl)
      try simp only [Act.put, List.setIfInBounds_toArray, List.set_cons_zero, List.set_cons_succ]
      refine wpAnyH_take (i := 16) (oi := { dst := some 19, op := Go.Op.move (Go.Operand.tmp 18), type := 4, pos := "rows.go:66", after := #[{ on := 15, ground := Go.Ground.data }, { on := 14, ground := Go.Ground.chain }], guard := none }) (v := ?_) rfl (by kernel_rfl) (by kernel_rfl) (by kernel_rfl) (fun _ _ _ h => h) (Or.inl ⟨by rfl, ?_⟩) hHeld ?_
      rotate_left
      · (intro w0 hS0; (try dsimp only at hS0); go_simp; try with_reducible rfl)
      try simp only [Act.put, List.setIfInBounds_toArray, List.set_cons_zero, List.set_cons_succ]
      refine wpAnyH_take (i := 17) (oi := { dst := some 20, op := Go.Op.fieldAddr 37 (Go.Operand.tmp 1) 4, type := 0, pos := "rows.go:66", after := #[{ on := 16, ground := Go.Ground.guard }], guard := some (16, true) }) (v := undef) rfl (by kernel_rfl) (by kernel_rfl) (by kernel_rfl) (fun _ _ _ h => h) (Or.inr ⟨by rfl, rfl⟩) hHeld ?_
      try simp only [Act.put, List.setIfInBounds_toArray, List.set_cons_zero, List.set_cons_succ]
      refine wpAnyH_take (i := 18) (oi := { dst := some 21, op := Go.Op.load 24 (Go.Operand.tmp 20), type := 24, pos := "rows.go:66", after := #[{ on := 17, ground := Go.Ground.data }, { on := 16, ground := Go.Ground.guard }], guard := some (16, true) }) (v := undef) rfl (by kernel_rfl) (by kernel_rfl) (by kernel_rfl) (fun _ _ _ h => h) (Or.inr ⟨by rfl, rfl⟩) hHeld ?_
      try simp only [Act.put, List.setIfInBounds_toArray, List.set_cons_zero, List.set_cons_succ]
      refine wpAnyH_take (i := 19) (oi := { dst := some 22, op := Go.Op.call { callee := Go.Callee.value (Go.Operand.func 53), args := #[Go.Operand.tmp 21], argTypes := #[24] }, type := 4, pos := "rows.go:66", after := #[{ on := 18, ground := Go.Ground.data }, { on := 16, ground := Go.Ground.chain }, { on := 16, ground := Go.Ground.guard }], guard := some (16, true) }) (v := undef) rfl (by kernel_rfl) (by kernel_rfl) (by kernel_rfl) (fun _ _ _ h => h) (Or.inr ⟨by rfl, rfl⟩) hHeld ?_
      try simp only [Act.put, List.setIfInBounds_toArray, List.set_cons_zero, List.set_cons_succ]
      refine wpAnyH_take (i := 20) (oi := { dst := some 23, op := Go.Op.pick (Go.Operand.tmp 19) (Go.Operand.tmp 22) (Go.Operand.const (Go.Value.bool false)), type := 4, pos := "rows.go:66", after := #[{ on := 16, ground := Go.Ground.data }, { on := 19, ground := Go.Ground.data }], guard := none }) (v := ?_) rfl (by kernel_rfl) (by kernel_rfl) (by kernel_rfl) (fun _ _ _ h => h) (Or.inl ⟨by rfl, ?_⟩) hHeld ?_
      rotate_left
      · (intro w0 hS0; (try dsimp only at hS0); go_simp; try with_reducible rfl)
      try simp only [Act.put, List.setIfInBounds_toArray, List.set_cons_zero, List.set_cons_succ]
      refine wpAnyH_take (i := 21) (oi := { dst := some 24, op := Go.Op.move (Go.Operand.tmp 23), type := 4, pos := "rows.go:66", after := #[{ on := 20, ground := Go.Ground.data }, { on := 19, ground := Go.Ground.chain }], guard := none }) (v := ?_) rfl (by kernel_rfl) (by kernel_rfl) (by kernel_rfl) (fun _ _ _ h => h) (Or.inl ⟨by rfl, ?_⟩) hHeld ?_
      rotate_left
      · (intro w0 hS0; (try dsimp only at hS0); go_simp; try with_reducible rfl)
      try simp only [Act.put, List.setIfInBounds_toArray, List.set_cons_zero, List.set_cons_succ]
      refine wpAnyH_take (i := 22) (oi := { dst := some 25, op := Go.Op.fieldAddr 37 (Go.Operand.tmp 1) 4, type := 0, pos := "rows.go:66", after := #[{ on := 21, ground := Go.Ground.guard }], guard := some (21, true) }) (v := undef) rfl (by kernel_rfl) (by kernel_rfl) (by kernel_rfl) (fun _ _ _ h => h) (Or.inr ⟨by rfl, rfl⟩) hHeld ?_
      try simp only [Act.put, List.setIfInBounds_toArray, List.set_cons_zero, List.set_cons_succ]
      refine wpAnyH_take (i := 23) (oi := { dst := some 26, op := Go.Op.load 24 (Go.Operand.tmp 25), type := 24, pos := "rows.go:66", after := #[{ on := 22, ground := Go.Ground.data }, { on := 21, ground := Go.Ground.guard }], guard := some (21, true) }) (v := undef) rfl (by kernel_rfl) (by kernel_rfl) (by kernel_rfl) (fun _ _ _ h => h) (Or.inr ⟨by rfl, rfl⟩) hHeld ?_
      try simp only [Act.put, List.setIfInBounds_toArray, List.set_cons_zero, List.set_cons_succ]
      refine wpAnyH_take (i := 24) (oi := { dst := some 27, op := Go.Op.call { callee := Go.Callee.builtin Go.Builtin.len, args := #[Go.Operand.tmp 26], argTypes := #[24] }, type := 3, pos := "rows.go:66", after := #[{ on := 23, ground := Go.Ground.data }, { on := 21, ground := Go.Ground.guard }], guard := some (21, true) }) (v := undef) rfl (by kernel_rfl) (by kernel_rfl) (by kernel_rfl) (fun _ _ _ h => h) (Or.inr ⟨by rfl, rfl⟩) hHeld ?_
      try simp only [Act.put, List.setIfInBounds_toArray, List.set_cons_zero, List.set_cons_succ]
      refine wpAnyH_take (i := 25) (oi := { dst := some 28, op := Go.Op.fieldAddr 37 (Go.Operand.tmp 1) 0, type := 0, pos := "rows.go:66", after := #[{ on := 21, ground := Go.Ground.guard }], guard := some (21, true) }) (v := undef) rfl (by kernel_rfl) (by kernel_rfl) (by kernel_rfl) (fun _ _ _ h => h) (Or.inr ⟨by rfl, rfl⟩) hHeld ?_
      try simp only [Act.put, List.setIfInBounds_toArray, List.set_cons_zero, List.set_cons_succ]
      refine wpAnyH_take (i := 26) (oi := { dst := some 29, op := Go.Op.load 3 (Go.Operand.tmp 28), type := 3, pos := "rows.go:66", after := #[{ on := 25, ground := Go.Ground.data }, { on := 21, ground := Go.Ground.guard }], guard := some (21, true) }) (v := undef) rfl (by kernel_rfl) (by kernel_rfl) (by kernel_rfl) (fun _ _ _ h => h) (Or.inr ⟨by rfl, rfl⟩) hHeld ?_
      try simp only [Act.put, List.setIfInBounds_toArray, List.set_cons_zero, List.set_cons_succ]
      refine wpAnyH_take (i := 27) (oi := { dst := some 30, op := Go.Op.convert 3 107 (Go.Operand.tmp 29), type := 107, pos := "rows.go:66", after := #[{ on := 26, ground := Go.Ground.data }, { on := 21, ground := Go.Ground.guard }], guard := some (21, true) }) (v := undef) rfl (by kernel_rfl) (by kernel_rfl) (by kernel_rfl) (fun _ _ _ h => h) (Or.inr ⟨by rfl, rfl⟩) hHeld ?_
      try simp only [Act.put, List.setIfInBounds_toArray, List.set_cons_zero, List.set_cons_succ]
      refine wpAnyH_take (i := 28) (oi := { dst := some 31, op := Go.Op.call { callee := Go.Callee.value (Go.Operand.func 60), args := #[Go.Operand.tmp 30], argTypes := #[107] }, type := 3, pos := "rows.go:66", after := #[{ on := 27, ground := Go.Ground.data }, { on := 21, ground := Go.Ground.chain }, { on := 21, ground := Go.Ground.guard }], guard := some (21, true) }) (v := undef) rfl (by kernel_rfl) (by kernel_rfl) (by kernel_rfl) (fun _ _ _ h => h) (Or.inr ⟨by rfl, rfl⟩) hHeld ?_
      try simp only [Act.put, List.setIfInBounds_toArray, List.set_cons_zero, List.set_cons_succ]
      refine wpAnyH_take (i := 29) (oi := { dst := some 32, op := Go.Op.binOp Go.BinOp.eql 3 (Go.Operand.tmp 27) (Go.Operand.tmp 31) 3, type := 4, pos := "rows.go:66", after := #[{ on := 24, ground := Go.Ground.data }, { on := 28, ground := Go.Ground.data }, { on := 21, ground := Go.Ground.guard }], guard := some (21, true) }) (v := undef) rfl (by kernel_rfl) (by kernel_rfl) (by kernel_rfl) (fun _ _ _ h => h) (Or.inr ⟨by rfl, rfl⟩) hHeld ?_
      try simp only [Act.put, List.setIfInBounds_toArray, List.set_cons_zero, List.set_cons_succ]
      refine wpAnyH_take (i := 30) (oi := { dst := some 33, op := Go.Op.pick (Go.Operand.tmp 24) (Go.Operand.tmp 32) (Go.Operand.const (Go.Value.bool false)), type := 4, pos := "rows.go:66", after := #[{ on := 21, ground := Go.Ground.data }, { on := 29, ground := Go.Ground.data }], guard := none }) (v := ?_) rfl (by kernel_rfl) (by kernel_rfl) (by kernel_rfl) (fun _ _ _ h => h) (Or.inl ⟨by rfl, ?_⟩) hHeld ?_
      rotate_left
      · (intro w0 hS0; (try dsimp only at hS0); go_simp; try with_reducible rfl)
      try simp only [Act.put, List.setIfInBounds_toArray, List.set_cons_zero, List.set_cons_succ]
      refine wpAnyH_take (i := 31) (oi := { dst := some 2, op := Go.Op.assign (Go.Operand.tmp 33), type := 4, pos := "rows.go:66", after := #[{ on := 30, ground := Go.Ground.data }, { on := 28, ground := Go.Ground.chain }, { on := 0, ground := Go.Ground.phase }, { on := 1, ground := Go.Ground.phase }, { on := 2, ground := Go.Ground.phase }, { on := 3, ground := Go.Ground.phase }, { on := 4, ground := Go.Ground.phase }, { on := 5, ground := Go.Ground.phase }, { on := 6, ground := Go.Ground.phase }, { on := 7, ground := Go.Ground.phase }, { on := 8, ground := Go.Ground.phase }, { on := 9, ground := Go.Ground.phase }, { on := 10, ground := Go.Ground.phase }, { on := 11, ground := Go.Ground.phase }, { on := 12, ground := Go.Ground.phase }, { on := 13, ground := Go.Ground.phase }, { on := 14, ground := Go.Ground.phase }, { on := 15, ground := Go.Ground.phase }, { on := 16, ground := Go.Ground.phase }, { on := 17, ground := Go.Ground.phase }, { on := 18, ground := Go.Ground.phase }, { on := 19, ground := Go.Ground.phase }, { on := 20, ground := Go.Ground.phase }, { on := 21, ground := Go.Ground.phase }, { on := 22, ground := Go.Ground.phase }, { on := 23, ground := Go.Ground.phase }, { on := 24, ground := Go.Ground.phase }, { on := 25, ground := Go.Ground.phase }, { on := 26, ground := Go.Ground.phase }, { on := 27, ground := Go.Ground.phase }, { on := 28, ground := Go.Ground.phase }, { on := 29, ground := Go.Ground.phase }, { on := 30, ground := Go.Ground.phase }], guard := none }) (v := ?_) rfl (by kernel_rfl) (by kernel_rfl) (by kernel_rfl) (fun _ _ _ h => h) (Or.inl ⟨by rfl, ?_⟩) hHeld ?_
      rotate_left
      · (intro w0 hS0; (try dsimp only at hS0); go_simp; try with_reducible rfl)
      try simp only [Act.put, List.setIfInBounds_toArray, List.set_cons_zero, List.set_cons_succ]
      refine wpAnyH_done (by kernel_rfl) ?_ _
      go_wp2_with fail
      go_ret
      exact ⟨rfl, HM.out.trans0 HMB.out⟩
    | true =>
      cases b2 with
      | false =>
        go_enter Tryz.func33, Tryz.ntmps33
        go_wp2_with fail
        rw [← HW0.out]
        refine wp_region_held_drew (S := fun w' => w'.cell? ⟨w.heap.size, 0, none⟩ = some (.int .i64 sz) ∧ w'.cell? ⟨w.heap.size, 1, none⟩ = some (.string root) ∧ w'.cell? ⟨w.heap.size, 2, none⟩ = some (.int .i64 tk) ∧ w'.cell? ⟨w.heap.size, 3, none⟩ = some (.int .i64 ep) ∧ w'.cell? ⟨w.heap.size, 4, none⟩ = some (.slice A n c) ∧ w'.cell? ⟨w.heap.size, 5, none⟩ = some (.string sig)) (by kernel_rfl) (hke0) (fun hHeld => ?_)
        refine wpAnyH_take (i := 0) (oi := { dst := some 3, op := Go.Op.fieldAddr 37 (Go.Operand.tmp 1) 0, type := 0, pos := "rows.go:66", after := #[], guard := none }) (v := ?_) rfl (by kernel_rfl) (by kernel_rfl) (by kernel_rfl) (fun _ _ _ h => h) (Or.inl ⟨by rfl, ?_⟩) hHeld ?_
        rotate_left
        · (intro w0 hS0; (try dsimp only at hS0); go_simp; try with_reducible rfl)
        try simp only [Act.put, List.setIfInBounds_toArray, List.set_cons_zero, List.set_cons_succ]
        refine wpAnyH_take (i := 1) (oi := { dst := some 4, op := Go.Op.load 3 (Go.Operand.tmp 3), type := 3, pos := "rows.go:66", after := #[{ on := 0, ground := Go.Ground.data }], guard := none }) (v := ?_) rfl (by kernel_rfl) (by kernel_rfl) (by kernel_rfl) (fun _ _ _ h => h) (Or.inl ⟨by rfl, ?_⟩) hHeld ?_
        rotate_left
        · (intro w0 hS0; (try dsimp only at hS0); go_simp; try with_reducible rfl)
        try simp only [Act.put, List.setIfInBounds_toArray, List.set_cons_zero, List.set_cons_succ]
        refine wpAnyH_take (i := 2) (oi := { dst := some 5, op := Go.Op.fieldAddr 37 (Go.Operand.tmp 1) 2, type := 0, pos := "rows.go:66", after := #[], guard := none }) (v := ?_) rfl (by kernel_rfl) (by kernel_rfl) (by kernel_rfl) (fun _ _ _ h => h) (Or.inl ⟨by rfl, ?_⟩) hHeld ?_
        rotate_left
        · (intro w0 hS0; (try dsimp only at hS0); go_simp; try with_reducible rfl)
        try simp only [Act.put, List.setIfInBounds_toArray, List.set_cons_zero, List.set_cons_succ]
        refine wpAnyH_take (i := 3) (oi := { dst := some 6, op := Go.Op.load 3 (Go.Operand.tmp 5), type := 3, pos := "rows.go:66", after := #[{ on := 2, ground := Go.Ground.data }], guard := none }) (v := ?_) rfl (by kernel_rfl) (by kernel_rfl) (by kernel_rfl) (fun _ _ _ h => h) (Or.inl ⟨by rfl, ?_⟩) hHeld ?_
        rotate_left
        · (intro w0 hS0; (try dsimp only at hS0); go_simp; try with_reducible rfl)
        try simp only [Act.put, List.setIfInBounds_toArray, List.set_cons_zero, List.set_cons_succ]
        refine wpAnyH_take (i := 4) (oi := { dst := some 7, op := Go.Op.fieldAddr 37 (Go.Operand.tmp 1) 3, type := 0, pos := "rows.go:66", after := #[], guard := none }) (v := ?_) rfl (by kernel_rfl) (by kernel_rfl) (by kernel_rfl) (fun _ _ _ h => h) (Or.inl ⟨by rfl, ?_⟩) hHeld ?_
        rotate_left
        · (intro w0 hS0; (try dsimp only at hS0); go_simp; try with_reducible rfl)
        try simp only [Act.put, List.setIfInBounds_toArray, List.set_cons_zero, List.set_cons_succ]
        refine wpAnyH_take (i := 5) (oi := { dst := some 8, op := Go.Op.load 3 (Go.Operand.tmp 7), type := 3, pos := "rows.go:66", after := #[{ on := 4, ground := Go.Ground.data }], guard := none }) (v := ?_) rfl (by kernel_rfl) (by kernel_rfl) (by kernel_rfl) (fun _ _ _ h => h) (Or.inl ⟨by rfl, ?_⟩) hHeld ?_
        rotate_left
        · (intro w0 hS0; (try dsimp only at hS0); go_simp; try with_reducible rfl)
        try simp only [Act.put, List.setIfInBounds_toArray, List.set_cons_zero, List.set_cons_succ]
        refine wpAnyH_ready (rs := [6]) (by kernel_rfl) (by simp) (AllReadyH.cons (o := { dst := some 9, op := Go.Op.buildSlice 71 3 #[(0, Go.Operand.tmp 4), (1, Go.Operand.tmp 6), (2, Go.Operand.tmp 8)], type := 71, pos := "rows.go:66", after := #[{ on := 1, ground := Go.Ground.data }, { on := 3, ground := Go.Ground.data }, { on := 5, ground := Go.Ground.data }], guard := none }) rfl (fun K hK => ?_) AllReadyH.nil)
        go_simp
        refine hK.out _ _ (hke1) (fun hHeld2 => ?_)
        clear hK K hHeld
        rename _ => hHeld
        try simp only [Act.put, List.setIfInBounds_toArray, List.set_cons_zero, List.set_cons_succ]
        refine wpAnyH_ready (rs := [7]) (by kernel_rfl) (by simp) (AllReadyH.cons (o := { dst := some 10, op := Go.Op.call { callee := Go.Callee.value (Go.Operand.func 59), args := #[Go.Operand.tmp 9], argTypes := #[71] }, type := 4, pos := "rows.go:66", after := #[{ on := 6, ground := Go.Ground.data }], guard := none }) rfl (fun K hK => ?_) AllReadyH.nil)
        go_simp
        refine HIN.out.mono ?_
        rintro e w2 ⟨rfl, rfl⟩
        refine hK.out _ _ (hke1) (fun hHeld2 => ?_)
        clear hK K hHeld
        rename _ => hHeld
        try simp only [Act.put, List.setIfInBounds_toArray, List.set_cons_zero, List.set_cons_succ]
        refine wpAnyH_take (i := 8) (oi := { dst := some 11, op := Go.Op.move (Go.Operand.tmp 10), type := 4, pos := "rows.go:66", after := #[{ on := 7, ground := Go.Ground.data }, { on := 7, ground := Go.Ground.chain }], guard := none }) (v := ?_) rfl (by kernel_rfl) (by kernel_rfl) (by kernel_rfl) (fun _ _ _ h => h) (Or.inl ⟨by rfl, ?_⟩) hHeld ?_
        rotate_left
        · (intro w0 hS0; (try dsimp only at hS0); go_simp; try with_reducible rfl)
        try simp only [Act.put, List.setIfInBounds_toArray, List.set_cons_zero, List.set_cons_succ]
        refine wpAnyH_take (i := 9) (oi := { dst := some 12, op := Go.Op.fieldAddr 37 (Go.Operand.tmp 1) 1, type := 0, pos := "rows.go:66", after := #[{ on := 8, ground := Go.Ground.guard }], guard := some (8, true) }) (v := ?_) rfl (by kernel_rfl) (by kernel_rfl) (by kernel_rfl) (fun _ _ _ h => h) (Or.inl ⟨by rfl, ?_⟩) hHeld ?_
        rotate_left
        · (intro w0 hS0; (try dsimp only at hS0); go_simp; try with_reducible rfl)
        try simp only [Act.put, List.setIfInBounds_toArray, List.set_cons_zero, List.set_cons_succ]
        refine wpAnyH_take (i := 10) (oi := { dst := some 13, op := Go.Op.load 9 (Go.Operand.tmp 12), type := 9, pos := "rows.go:66", after := #[{ on := 9, ground := Go.Ground.data }, { on := 8, ground := Go.Ground.guard }], guard := some (8, true) }) (v := ?_) rfl (by kernel_rfl) (by kernel_rfl) (by kernel_rfl) (fun _ _ _ h => h) (Or.inl ⟨by rfl, ?_⟩) hHeld ?_
        rotate_left
        · (intro w0 hS0; (try dsimp only at hS0); go_simp; try with_reducible rfl)
        try simp only [Act.put, List.setIfInBounds_toArray, List.set_cons_zero, List.set_cons_succ]
        refine wpAnyH_take (i := 11) (oi := { dst := some 14, op := Go.Op.fieldAddr 37 (Go.Operand.tmp 1) 5, type := 0, pos := "rows.go:66", after := #[{ on := 8, ground := Go.Ground.guard }], guard := some (8, true) }) (v := ?_) rfl (by kernel_rfl) (by kernel_rfl) (by kernel_rfl) (fun _ _ _ h => h) (Or.inl ⟨by rfl, ?_⟩) hHeld ?_
        rotate_left
        · (intro w0 hS0; (try dsimp only at hS0); go_simp; try with_reducible rfl)
        try simp only [Act.put, List.setIfInBounds_toArray, List.set_cons_zero, List.set_cons_succ]
        refine wpAnyH_take (i := 12) (oi := { dst := some 15, op := Go.Op.load 9 (Go.Operand.tmp 14), type := 9, pos := "rows.go:66", after := #[{ on := 11, ground := Go.Ground.data }, { on := 8, ground := Go.Ground.guard }], guard := some (8, true) }) (v := ?_) rfl (by kernel_rfl) (by kernel_rfl) (by kernel_rfl) (fun _ _ _ h => h) (Or.inl ⟨by rfl, ?_⟩) hHeld ?_
        rotate_left
        · (intro w0 hS0; (try dsimp only at hS0); go_simp; try with_reducible rfl)
        try simp only [Act.put, List.setIfInBounds_toArray, List.set_cons_zero, List.set_cons_succ]
        refine wpAnyH_ready (rs := [13]) (by kernel_rfl) (by simp) (AllReadyH.cons (o := { dst := some 16, op := Go.Op.buildSlice 24 2 #[(0, Go.Operand.tmp 13), (1, Go.Operand.tmp 15)], type := 24, pos := "rows.go:66", after := #[{ on := 10, ground := Go.Ground.data }, { on := 12, ground := Go.Ground.data }, { on := 8, ground := Go.Ground.guard }], guard := some (8, true) }) rfl (fun K hK => ?_) AllReadyH.nil)
        go_simp
        refine hK.out _ _ (hke2) (fun hHeld2 => ?_)
        clear hK K hHeld
        rename _ => hHeld
        try simp only [Act.put, List.setIfInBounds_toArray, List.set_cons_zero, List.set_cons_succ]
        refine wpAnyH_ready (rs := [14]) (by kernel_rfl) (by simp) (AllReadyH.cons (o := { dst := some 17, op := Go.Op.call { callee := Go.Callee.value (Go.Operand.func 53), args := #[Go.Operand.tmp 16], argTypes := #[24] }, type := 4, pos := "rows.go:66", after := #[{ on := 13, ground := Go.Ground.data }, { on := 8, ground := Go.Ground.chain }, { on := 8, ground := Go.Ground.guard }], guard := some (8, true) }) rfl (fun K hK => ?_) AllReadyH.nil)
        go_simp
        refine HIS.out.mono ?_
        rintro e w3 ⟨rfl, rfl⟩
        refine hK.out _ _ (hke2) (fun hHeld2 => ?_)
        clear hK K hHeld
        rename _ => hHeld
        try simp only [Act.put, List.setIfInBounds_toArray, List.set_cons_zero, List.set_cons_succ]
        refine wpAnyH_take (i := 15) (oi := { dst := some 18, op := Go.Op.pick (Go.Operand.tmp 11) (Go.Operand.tmp 17) (Go.Operand.const (Go.Value.bool false)), type := 4, pos := "rows.go:66", after := #[{ on := 8, ground := Go.Ground.data }, { on := 14, ground := Go.Ground.data }], guard := none }) (v := ?_) rfl (by kernel_rfl) (by kernel_rfl) (by kernel_rfl) (fun _ _ _ h => h) (Or.inl ⟨by rfl, ?_⟩) hHeld ?_
        rotate_left
        · (intro w0 hS0; (try dsimp only at hS0); go_simp; try with_reducible rfl)
        try simp only [Act.put, List.setIfInBounds_toArray, List.set_cons_zero, List.set_cons_succ]
        refine wpAnyH_take (i := 16) (oi := { dst := some 19, op := Go.Op.move (Go.Operand.tmp 18), type := 4, pos := "rows.go:66", after := #[{ on := 15, ground := Go.Ground.data }, { on := 14, ground := Go.Ground.chain }], guard := none }) (v := ?_) rfl (by kernel_rfl) (by kernel_rfl) (by kernel_rfl) (fun _ _ _ h => h) (Or.inl ⟨by rfl, ?_⟩) hHeld ?_
        rotate_left
        · (intro w0 hS0; (try dsimp only at hS0); go_simp; try with_reducible rfl)
        try simp only [Act.put, List.setIfInBounds_toArray, List.set_cons_zero, List.set_cons_succ]
        refine wpAnyH_take (i := 17) (oi := { dst := some 20, op := Go.Op.fieldAddr 37 (Go.Operand.tmp 1) 4, type := 0, pos := "rows.go:66", after := #[{ on := 16, ground := Go.Ground.guard }], guard := some (16, true) }) (v := ?_) rfl (by kernel_rfl) (by kernel_rfl) (by kernel_rfl) (fun _ _ _ h => h) (Or.inl ⟨by rfl, ?_⟩) hHeld ?_
        rotate_left
        · (intro w0 hS0; (try dsimp only at hS0); go_simp; try with_reducible rfl)
        try simp only [Act.put, List.setIfInBounds_toArray, List.set_cons_zero, List.set_cons_succ]
        refine wpAnyH_take (i := 18) (oi := { dst := some 21, op := Go.Op.load 24 (Go.Operand.tmp 20), type := 24, pos := "rows.go:66", after := #[{ on := 17, ground := Go.Ground.data }, { on := 16, ground := Go.Ground.guard }], guard := some (16, true) }) (v := ?_) rfl (by kernel_rfl) (by kernel_rfl) (by kernel_rfl) (fun _ _ _ h => h) (Or.inl ⟨by rfl, ?_⟩) hHeld ?_
        rotate_left
        · (intro w0 hS0; (try dsimp only at hS0); go_simp; try with_reducible rfl)
        try simp only [Act.put, List.setIfInBounds_toArray, List.set_cons_zero, List.set_cons_succ]
        refine wpAnyH_ready (rs := [19]) (by kernel_rfl) (by simp) (AllReadyH.cons (o := { dst := some 22, op := Go.Op.call { callee := Go.Callee.value (Go.Operand.func 53), args := #[Go.Operand.tmp 21], argTypes := #[24] }, type := 4, pos := "rows.go:66", after := #[{ on := 18, ground := Go.Ground.data }, { on := 16, ground := Go.Ground.chain }, { on := 16, ground := Go.Ground.guard }], guard := some (16, true) }) rfl (fun K hK => ?_) AllReadyH.nil)
        go_simp
        refine HNO.out.mono ?_
        rintro e w4 ⟨rfl, rfl⟩
        refine hK.out _ _ (hke2) (fun hHeld2 => ?_)
        clear hK K hHeld
        rename _ => hHeld
        try simp only [Act.put, List.setIfInBounds_toArray, List.set_cons_zero, List.set_cons_succ]
        refine wpAnyH_take (i := 20) (oi := { dst := some 23, op := Go.Op.pick (Go.Operand.tmp 19) (Go.Operand.tmp 22) (Go.Operand.const (Go.Value.bool false)), type := 4, pos := "rows.go:66", after := #[{ on := 16, ground := Go.Ground.data }, { on := 19, ground := Go.Ground.data }], guard := none }) (v := ?_) rfl (by kernel_rfl) (by kernel_rfl) (by kernel_rfl) (fun _ _ _ h => h) (Or.inl ⟨by rfl, ?_⟩) hHeld ?_
        rotate_left
        · (intro w0 hS0; (try dsimp only at hS0); go_simp; try with_reducible rfl)
        try simp only [Act.put, List.setIfInBounds_toArray, List.set_cons_zero, List.set_cons_succ]
        refine wpAnyH_take (i := 21) (oi := { dst := some 24, op := Go.Op.move (Go.Operand.tmp 23), type := 4, pos := "rows.go:66", after := #[{ on := 20, ground := Go.Ground.data }, { on := 19, ground := Go.Ground.chain }], guard := none }) (v := ?_) rfl (by kernel_rfl) (by kernel_rfl) (by kernel_rfl) (fun _ _ _ h => h) (Or.inl ⟨by rfl, ?_⟩) hHeld ?_
        rotate_left
        · (intro w0 hS0; (try dsimp only at hS0); go_simp; try with_reducible rfl)
        try simp only [Act.put, List.setIfInBounds_toArray, List.set_cons_zero, List.set_cons_succ]
        refine wpAnyH_take (i := 22) (oi := { dst := some 25, op := Go.Op.fieldAddr 37 (Go.Operand.tmp 1) 4, type := 0, pos := "rows.go:66", after := #[{ on := 21, ground := Go.Ground.guard }], guard := some (21, true) }) (v := undef) rfl (by kernel_rfl) (by kernel_rfl) (by kernel_rfl) (fun _ _ _ h => h) (Or.inr ⟨by rfl, rfl⟩) hHeld ?_
        try simp only [Act.put, List.setIfInBounds_toArray, List.set_cons_zero, List.set_cons_succ]
        refine wpAnyH_take (i := 23) (oi := { dst := some 26, op := Go.Op.load 24 (Go.Operand.tmp 25), type := 24, pos := "rows.go:66", after := #[{ on := 22, ground := Go.Ground.data }, { on := 21, ground := Go.Ground.guard }], guard := some (21, true) }) (v := undef) rfl (by kernel_rfl) (by kernel_rfl) (by kernel_rfl) (fun _ _ _ h => h) (Or.inr ⟨by rfl, rfl⟩) hHeld ?_
        try simp only [Act.put, List.setIfInBounds_toArray, List.set_cons_zero, List.set_cons_succ]
        refine wpAnyH_take (i := 24) (oi := { dst := some 27, op := Go.Op.call { callee := Go.Callee.builtin Go.Builtin.len, args := #[Go.Operand.tmp 26], argTypes := #[24] }, type := 3, pos := "rows.go:66", after := #[{ on := 23, ground := Go.Ground.data }, { on := 21, ground := Go.Ground.guard }], guard := some (21, true) }) (v := undef) rfl (by kernel_rfl) (by kernel_rfl) (by kernel_rfl) (fun _ _ _ h => h) (Or.inr ⟨by rfl, rfl⟩) hHeld ?_
        try simp only [Act.put, List.setIfInBounds_toArray, List.set_cons_zero, List.set_cons_succ]
        refine wpAnyH_take (i := 25) (oi := { dst := some 28, op := Go.Op.fieldAddr 37 (Go.Operand.tmp 1) 0, type := 0, pos := "rows.go:66", after := #[{ on := 21, ground := Go.Ground.guard }], guard := some (21, true) }) (v := undef) rfl (by kernel_rfl) (by kernel_rfl) (by kernel_rfl) (fun _ _ _ h => h) (Or.inr ⟨by rfl, rfl⟩) hHeld ?_
        try simp only [Act.put, List.setIfInBounds_toArray, List.set_cons_zero, List.set_cons_succ]
        refine wpAnyH_take (i := 26) (oi := { dst := some 29, op := Go.Op.load 3 (Go.Operand.tmp 28), type := 3, pos := "rows.go:66", after := #[{ on := 25, ground := Go.Ground.data }, { on := 21, ground := Go.Ground.guard }], guard := some (21, true) }) (v := undef) rfl (by kernel_rfl) (by kernel_rfl) (by kernel_rfl) (fun _ _ _ h => h) (Or.inr ⟨by rfl, rfl⟩) hHeld ?_
        try simp only [Act.put, List.setIfInBounds_toArray, List.set_cons_zero, List.set_cons_succ]
        refine wpAnyH_take (i := 27) (oi := { dst := some 30, op := Go.Op.convert 3 107 (Go.Operand.tmp 29), type := 107, pos := "rows.go:66", after := #[{ on := 26, ground := Go.Ground.data }, { on := 21, ground := Go.Ground.guard }], guard := some (21, true) }) (v := undef) rfl (by kernel_rfl) (by kernel_rfl) (by kernel_rfl) (fun _ _ _ h => h) (Or.inr ⟨by rfl, rfl⟩) hHeld ?_
        try simp only [Act.put, List.setIfInBounds_toArray, List.set_cons_zero, List.set_cons_succ]
        refine wpAnyH_take (i := 28) (oi := { dst := some 31, op := Go.Op.call { callee := Go.Callee.value (Go.Operand.func 60), args := #[Go.Operand.tmp 30], argTypes := #[107] }, type := 3, pos := "rows.go:66", after := #[{ on := 27, ground := Go.Ground.data }, { on := 21, ground := Go.Ground.chain }, { on := 21, ground := Go.Ground.guard }], guard := some (21, true) }) (v := undef) rfl (by kernel_rfl) (by kernel_rfl) (by kernel_rfl) (fun _ _ _ h => h) (Or.inr ⟨by rfl, rfl⟩) hHeld ?_
        try simp only [Act.put, List.setIfInBounds_toArray, List.set_cons_zero, List.set_cons_succ]
        refine wpAnyH_take (i := 29) (oi := { dst := some 32, op := Go.Op.binOp Go.BinOp.eql 3 (Go.Operand.tmp 27) (Go.Operand.tmp 31) 3, type := 4, pos := "rows.go:66", after := #[{ on := 24, ground := Go.Ground.data }, { on := 28, ground := Go.Ground.data }, { on := 21, ground := Go.Ground.guard }], guard := some (21, true) }) (v := undef) rfl (by kernel_rfl) (by kernel_rfl) (by kernel_rfl) (fun _ _ _ h => h) (Or.inr ⟨by rfl, rfl⟩) hHeld ?_
        try simp only [Act.put, List.setIfInBounds_toArray, List.set_cons_zero, List.set_cons_succ]
        refine wpAnyH_take (i := 30) (oi := { dst := some 33, op := Go.Op.pick (Go.Operand.tmp 24) (Go.Operand.tmp 32) (Go.Operand.const (Go.Value.bool false)), type := 4, pos := "rows.go:66", after := #[{ on := 21, ground := Go.Ground.data }, { on := 29, ground := Go.Ground.data }], guard := none }) (v := ?_) rfl (by kernel_rfl) (by kernel_rfl) (by kernel_rfl) (fun _ _ _ h => h) (Or.inl ⟨by rfl, ?_⟩) hHeld ?_
        rotate_left
        · (intro w0 hS0; (try dsimp only at hS0); go_simp; try with_reducible rfl)
        try simp only [Act.put, List.setIfInBounds_toArray, List.set_cons_zero, List.set_cons_succ]
        refine wpAnyH_take (i := 31) (oi := { dst := some 2, op := Go.Op.assign (Go.Operand.tmp 33), type := 4, pos := "rows.go:66", after := #[{ on := 30, ground := Go.Ground.data }, { on := 28, ground := Go.Ground.chain }, { on := 0, ground := Go.Ground.phase }, { on := 1, ground := Go.Ground.phase }, { on := 2, ground := Go.Ground.phase }, { on := 3, ground := Go.Ground.phase }, { on := 4, ground := Go.Ground.phase }, { on := 5, ground := Go.Ground.phase }, { on := 6, ground := Go.Ground.phase }, { on := 7, ground := Go.Ground.phase }, { on := 8, ground := Go.Ground.phase }, { on := 9, ground := Go.Ground.phase }, { on := 10, ground := Go.Ground.phase }, { on := 11, ground := Go.Ground.phase }, { on := 12, ground := Go.Ground.phase }, { on := 13, ground := Go.Ground.phase }, { on := 14, ground := Go.Ground.phase }, { on := 15, ground := Go.Ground.phase }, { on := 16, ground := Go.Ground.phase }, { on := 17, ground := Go.Ground.phase }, { on := 18, ground := Go.Ground.phase }, { on := 19, ground := Go.Ground.phase }, { on := 20, ground := Go.Ground.phase }, { on := 21, ground := Go.Ground.phase }, { on := 22, ground := Go.Ground.phase }, { on := 23, ground := Go.Ground.phase }, { on := 24, ground := Go.Ground.phase }, { on := 25, ground := Go.Ground.phase }, { on := 26, ground := Go.Ground.phase }, { on := 27, ground := Go.Ground.phase }, { on := 28, ground := Go.Ground.phase }, { on := 29, ground := Go.Ground.phase }, { on := 30, ground := Go.Ground.phase }], guard := none }) (v := ?_) rfl (by kernel_rfl) (by kernel_rfl) (by kernel_rfl) (fun _ _ _ h => h) (Or.inl ⟨by rfl, ?_⟩) hHeld ?_
        rotate_left
        · (intro w0 hS0; (try dsimp only at hS0); go_simp; try with_reducible rfl)
        try simp only [Act.put, List.setIfInBounds_toArray, List.set_cons_zero, List.set_cons_succ]
        refine wpAnyH_done (by kernel_rfl) ?_ _
        go_wp2_with fail
        go_ret
        exact ⟨rfl, HM.out.trans0 HMB.out⟩
      | true =>
        go_enter Tryz.func33, Tryz.ntmps33
        go_wp2_with fail
        rw [← HW0.out]
        refine wp_region_held_drew (S := fun w' => w'.cell? ⟨w.heap.size, 0, none⟩ = some (.int .i64 sz) ∧ w'.cell? ⟨w.heap.size, 1, none⟩ = some (.string root) ∧ w'.cell? ⟨w.heap.size, 2, none⟩ = some (.int .i64 tk) ∧ w'.cell? ⟨w.heap.size, 3, none⟩ = some (.int .i64 ep) ∧ w'.cell? ⟨w.heap.size, 4, none⟩ = some (.slice A n c) ∧ w'.cell? ⟨w.heap.size, 5, none⟩ = some (.string sig)) (by kernel_rfl) (hke0) (fun hHeld => ?_)
        refine wpAnyH_take (i := 0) (oi := { dst := some 3, op := Go.Op.fieldAddr 37 (Go.Operand.tmp 1) 0, type := 0, pos := "rows.go:66", after := #[], guard := none }) (v := ?_) rfl (by kernel_rfl) (by kernel_rfl) (by kernel_rfl) (fun _ _ _ h => h) (Or.inl ⟨by rfl, ?_⟩) hHeld ?_
        rotate_left
        · (intro w0 hS0; (try dsimp only at hS0); go_simp; try with_reducible rfl)
        try simp only [Act.put, List.setIfInBounds_toArray, List.set_cons_zero, List.set_cons_succ]
        refine wpAnyH_take (i := 1) (oi := { dst := some 4, op := Go.Op.load 3 (Go.Operand.tmp 3), type := 3, pos := "rows.go:66", after := #[{ on := 0, ground := Go.Ground.data }], guard := none }) (v := ?_) rfl (by kernel_rfl) (by kernel_rfl) (by kernel_rfl) (fun _ _ _ h => h) (Or.inl ⟨by rfl, ?_⟩) hHeld ?_
        rotate_left
        · (intro w0 hS0; (try dsimp only at hS0); go_simp; try with_reducible rfl)
        try simp only [Act.put, List.setIfInBounds_toArray, List.set_cons_zero, List.set_cons_succ]
        refine wpAnyH_take (i := 2) (oi := { dst := some 5, op := Go.Op.fieldAddr 37 (Go.Operand.tmp 1) 2, type := 0, pos := "rows.go:66", after := #[], guard := none }) (v := ?_) rfl (by kernel_rfl) (by kernel_rfl) (by kernel_rfl) (fun _ _ _ h => h) (Or.inl ⟨by rfl, ?_⟩) hHeld ?_
        rotate_left
        · (intro w0 hS0; (try dsimp only at hS0); go_simp; try with_reducible rfl)
        try simp only [Act.put, List.setIfInBounds_toArray, List.set_cons_zero, List.set_cons_succ]
        refine wpAnyH_take (i := 3) (oi := { dst := some 6, op := Go.Op.load 3 (Go.Operand.tmp 5), type := 3, pos := "rows.go:66", after := #[{ on := 2, ground := Go.Ground.data }], guard := none }) (v := ?_) rfl (by kernel_rfl) (by kernel_rfl) (by kernel_rfl) (fun _ _ _ h => h) (Or.inl ⟨by rfl, ?_⟩) hHeld ?_
        rotate_left
        · (intro w0 hS0; (try dsimp only at hS0); go_simp; try with_reducible rfl)
        try simp only [Act.put, List.setIfInBounds_toArray, List.set_cons_zero, List.set_cons_succ]
        refine wpAnyH_take (i := 4) (oi := { dst := some 7, op := Go.Op.fieldAddr 37 (Go.Operand.tmp 1) 3, type := 0, pos := "rows.go:66", after := #[], guard := none }) (v := ?_) rfl (by kernel_rfl) (by kernel_rfl) (by kernel_rfl) (fun _ _ _ h => h) (Or.inl ⟨by rfl, ?_⟩) hHeld ?_
        rotate_left
        · (intro w0 hS0; (try dsimp only at hS0); go_simp; try with_reducible rfl)
        try simp only [Act.put, List.setIfInBounds_toArray, List.set_cons_zero, List.set_cons_succ]
        refine wpAnyH_take (i := 5) (oi := { dst := some 8, op := Go.Op.load 3 (Go.Operand.tmp 7), type := 3, pos := "rows.go:66", after := #[{ on := 4, ground := Go.Ground.data }], guard := none }) (v := ?_) rfl (by kernel_rfl) (by kernel_rfl) (by kernel_rfl) (fun _ _ _ h => h) (Or.inl ⟨by rfl, ?_⟩) hHeld ?_
        rotate_left
        · (intro w0 hS0; (try dsimp only at hS0); go_simp; try with_reducible rfl)
        try simp only [Act.put, List.setIfInBounds_toArray, List.set_cons_zero, List.set_cons_succ]
        refine wpAnyH_ready (rs := [6]) (by kernel_rfl) (by simp) (AllReadyH.cons (o := { dst := some 9, op := Go.Op.buildSlice 71 3 #[(0, Go.Operand.tmp 4), (1, Go.Operand.tmp 6), (2, Go.Operand.tmp 8)], type := 71, pos := "rows.go:66", after := #[{ on := 1, ground := Go.Ground.data }, { on := 3, ground := Go.Ground.data }, { on := 5, ground := Go.Ground.data }], guard := none }) rfl (fun K hK => ?_) AllReadyH.nil)
        go_simp
        refine hK.out _ _ (hke1) (fun hHeld2 => ?_)
        clear hK K hHeld
        rename _ => hHeld
        try simp only [Act.put, List.setIfInBounds_toArray, List.set_cons_zero, List.set_cons_succ]
        refine wpAnyH_ready (rs := [7]) (by kernel_rfl) (by simp) (AllReadyH.cons (o := { dst := some 10, op := Go.Op.call { callee := Go.Callee.value (Go.Operand.func 59), args := #[Go.Operand.tmp 9], argTypes := #[71] }, type := 4, pos := "rows.go:66", after := #[{ on := 6, ground := Go.Ground.data }], guard := none }) rfl (fun K hK => ?_) AllReadyH.nil)
        go_simp
        refine HIN.out.mono ?_
        rintro e w2 ⟨rfl, rfl⟩
        refine hK.out _ _ (hke1) (fun hHeld2 => ?_)
        clear hK K hHeld
        rename _ => hHeld
        try simp only [Act.put, List.setIfInBounds_toArray, List.set_cons_zero, List.set_cons_succ]
        refine wpAnyH_take (i := 8) (oi := { dst := some 11, op := Go.Op.move (Go.Operand.tmp 10), type := 4, pos := "rows.go:66", after := #[{ on := 7, ground := Go.Ground.data }, { on := 7, ground := Go.Ground.chain }], guard := none }) (v := ?_) rfl (by kernel_rfl) (by kernel_rfl) (by kernel_rfl) (fun _ _ _ h => h) (Or.inl ⟨by rfl, ?_⟩) hHeld ?_
        rotate_left
        · (intro w0 hS0; (try dsimp only at hS0); go_simp; try with_reducible rfl)
        try simp only [Act.put, List.setIfInBounds_toArray, List.set_cons_zero, List.set_cons_succ]
        refine wpAnyH_take (i := 9) (oi := { dst := some 12, op := Go.Op.fieldAddr 37 (Go.Operand.tmp 1) 1, type := 0, pos := "rows.go:66", after := #[{ on := 8, ground := Go.Ground.guard }], guard := some (8, true) }) (v := ?_) rfl (by kernel_rfl) (by kernel_rfl) (by kernel_rfl) (fun _ _ _ h => h) (Or.inl ⟨by rfl, ?_⟩) hHeld ?_
        rotate_left
        · (intro w0 hS0; (try dsimp only at hS0); go_simp; try with_reducible rfl)
        try simp only [Act.put, List.setIfInBounds_toArray, List.set_cons_zero, List.set_cons_succ]
        refine wpAnyH_take (i := 10) (oi := { dst := some 13, op := Go.Op.load 9 (Go.Operand.tmp 12), type := 9, pos := "rows.go:66", after := #[{ on := 9, ground := Go.Ground.data }, { on := 8, ground := Go.Ground.guard }], guard := some (8, true) }) (v := ?_) rfl (by kernel_rfl) (by kernel_rfl) (by kernel_rfl) (fun _ _ _ h => h) (Or.inl ⟨by rfl, ?_⟩) hHeld ?_
        rotate_left
        · (intro w0 hS0; (try dsimp only at hS0); go_simp; try with_reducible rfl)
        try simp only [Act.put, List.setIfInBounds_toArray, List.set_cons_zero, List.set_cons_succ]
        refine wpAnyH_take (i := 11) (oi := { dst := some 14, op := Go.Op.fieldAddr 37 (Go.Operand.tmp 1) 5, type := 0, pos := "rows.go:66", after := #[{ on := 8, ground := Go.Ground.guard }], guard := some (8, true) }) (v := ?_) rfl (by kernel_rfl) (by kernel_rfl) (by kernel_rfl) (fun _ _ _ h => h) (Or.inl ⟨by rfl, ?_⟩) hHeld ?_
        rotate_left
        · (intro w0 hS0; (try dsimp only at hS0); go_simp; try with_reducible rfl)
        try simp only [Act.put, List.setIfInBounds_toArray, List.set_cons_zero, List.set_cons_succ]
        refine wpAnyH_take (i := 12) (oi := { dst := some 15, op := Go.Op.load 9 (Go.Operand.tmp 14), type := 9, pos := "rows.go:66", after := #[{ on := 11, ground := Go.Ground.data }, { on := 8, ground := Go.Ground.guard }], guard := some (8, true) }) (v := ?_) rfl (by kernel_rfl) (by kernel_rfl) (by kernel_rfl) (fun _ _ _ h => h) (Or.inl ⟨by rfl, ?_⟩) hHeld ?_
        rotate_left
        · (intro w0 hS0; (try dsimp only at hS0); go_simp; try with_reducible rfl)
        try simp only [Act.put, List.setIfInBounds_toArray, List.set_cons_zero, List.set_cons_succ]
        refine wpAnyH_ready (rs := [13]) (by kernel_rfl) (by simp) (AllReadyH.cons (o := { dst := some 16, op := Go.Op.buildSlice 24 2 #[(0, Go.Operand.tmp 13), (1, Go.Operand.tmp 15)], type := 24, pos := "rows.go:66", after := #[{ on := 10, ground := Go.Ground.data }, { on := 12, ground := Go.Ground.data }, { on := 8, ground := Go.Ground.guard }], guard := some (8, true) }) rfl (fun K hK => ?_) AllReadyH.nil)
        go_simp
        refine hK.out _ _ (hke2) (fun hHeld2 => ?_)
        clear hK K hHeld
        rename _ => hHeld
        try simp only [Act.put, List.setIfInBounds_toArray, List.set_cons_zero, List.set_cons_succ]
        refine wpAnyH_ready (rs := [14]) (by kernel_rfl) (by simp) (AllReadyH.cons (o := { dst := some 17, op := Go.Op.call { callee := Go.Callee.value (Go.Operand.func 53), args := #[Go.Operand.tmp 16], argTypes := #[24] }, type := 4, pos := "rows.go:66", after := #[{ on := 13, ground := Go.Ground.data }, { on := 8, ground := Go.Ground.chain }, { on := 8, ground := Go.Ground.guard }], guard := some (8, true) }) rfl (fun K hK => ?_) AllReadyH.nil)
        go_simp
        refine HIS.out.mono ?_
        rintro e w3 ⟨rfl, rfl⟩
        refine hK.out _ _ (hke2) (fun hHeld2 => ?_)
        clear hK K hHeld
        rename _ => hHeld
        try simp only [Act.put, List.setIfInBounds_toArray, List.set_cons_zero, List.set_cons_succ]
        refine wpAnyH_take (i := 15) (oi := { dst := some 18, op := Go.Op.pick (Go.Operand.tmp 11) (Go.Operand.tmp 17) (Go.Operand.const (Go.Value.bool false)), type := 4, pos := "rows.go:66", after := #[{ on := 8, ground := Go.Ground.data }, { on := 14, ground := Go.Ground.data }], guard := none }) (v := ?_) rfl (by kernel_rfl) (by kernel_rfl) (by kernel_rfl) (fun _ _ _ h => h) (Or.inl ⟨by rfl, ?_⟩) hHeld ?_
        rotate_left
        · (intro w0 hS0; (try dsimp only at hS0); go_simp; try with_reducible rfl)
        try simp only [Act.put, List.setIfInBounds_toArray, List.set_cons_zero, List.set_cons_succ]
        refine wpAnyH_take (i := 16) (oi := { dst := some 19, op := Go.Op.move (Go.Operand.tmp 18), type := 4, pos := "rows.go:66", after := #[{ on := 15, ground := Go.Ground.data }, { on := 14, ground := Go.Ground.chain }], guard := none }) (v := ?_) rfl (by kernel_rfl) (by kernel_rfl) (by kernel_rfl) (fun _ _ _ h => h) (Or.inl ⟨by rfl, ?_⟩) hHeld ?_
        rotate_left
        · (intro w0 hS0; (try dsimp only at hS0); go_simp; try with_reducible rfl)
        try simp only [Act.put, List.setIfInBounds_toArray, List.set_cons_zero, List.set_cons_succ]
        refine wpAnyH_take (i := 17) (oi := { dst := some 20, op := Go.Op.fieldAddr 37 (Go.Operand.tmp 1) 4, type := 0, pos := "rows.go:66", after := #[{ on := 16, ground := Go.Ground.guard }], guard := some (16, true) }) (v := ?_) rfl (by kernel_rfl) (by kernel_rfl) (by kernel_rfl) (fun _ _ _ h => h) (Or.inl ⟨by rfl, ?_⟩) hHeld ?_
        rotate_left
        · (intro w0 hS0; (try dsimp only at hS0); go_simp; try with_reducible rfl)
        try simp only [Act.put, List.setIfInBounds_toArray, List.set_cons_zero, List.set_cons_succ]
        refine wpAnyH_take (i := 18) (oi := { dst := some 21, op := Go.Op.load 24 (Go.Operand.tmp 20), type := 24, pos := "rows.go:66", after := #[{ on := 17, ground := Go.Ground.data }, { on := 16, ground := Go.Ground.guard }], guard := some (16, true) }) (v := ?_) rfl (by kernel_rfl) (by kernel_rfl) (by kernel_rfl) (fun _ _ _ h => h) (Or.inl ⟨by rfl, ?_⟩) hHeld ?_
        rotate_left
        · (intro w0 hS0; (try dsimp only at hS0); go_simp; try with_reducible rfl)
        try simp only [Act.put, List.setIfInBounds_toArray, List.set_cons_zero, List.set_cons_succ]
        refine wpAnyH_ready (rs := [19]) (by kernel_rfl) (by simp) (AllReadyH.cons (o := { dst := some 22, op := Go.Op.call { callee := Go.Callee.value (Go.Operand.func 53), args := #[Go.Operand.tmp 21], argTypes := #[24] }, type := 4, pos := "rows.go:66", after := #[{ on := 18, ground := Go.Ground.data }, { on := 16, ground := Go.Ground.chain }, { on := 16, ground := Go.Ground.guard }], guard := some (16, true) }) rfl (fun K hK => ?_) AllReadyH.nil)
        go_simp
        refine HNO.out.mono ?_
        rintro e w4 ⟨rfl, rfl⟩
        refine hK.out _ _ (hke2) (fun hHeld2 => ?_)
        clear hK K hHeld
        rename _ => hHeld
        try simp only [Act.put, List.setIfInBounds_toArray, List.set_cons_zero, List.set_cons_succ]
        refine wpAnyH_take (i := 20) (oi := { dst := some 23, op := Go.Op.pick (Go.Operand.tmp 19) (Go.Operand.tmp 22) (Go.Operand.const (Go.Value.bool false)), type := 4, pos := "rows.go:66", after := #[{ on := 16, ground := Go.Ground.data }, { on := 19, ground := Go.Ground.data }], guard := none }) (v := ?_) rfl (by kernel_rfl) (by kernel_rfl) (by kernel_rfl) (fun _ _ _ h => h) (Or.inl ⟨by rfl, ?_⟩) hHeld ?_
        rotate_left
        · (intro w0 hS0; (try dsimp only at hS0); go_simp; try with_reducible rfl)
        try simp only [Act.put, List.setIfInBounds_toArray, List.set_cons_zero, List.set_cons_succ]
        refine wpAnyH_take (i := 21) (oi := { dst := some 24, op := Go.Op.move (Go.Operand.tmp 23), type := 4, pos := "rows.go:66", after := #[{ on := 20, ground := Go.Ground.data }, { on := 19, ground := Go.Ground.chain }], guard := none }) (v := ?_) rfl (by kernel_rfl) (by kernel_rfl) (by kernel_rfl) (fun _ _ _ h => h) (Or.inl ⟨by rfl, ?_⟩) hHeld ?_
        rotate_left
        · (intro w0 hS0; (try dsimp only at hS0); go_simp; try with_reducible rfl)
        try simp only [Act.put, List.setIfInBounds_toArray, List.set_cons_zero, List.set_cons_succ]
        refine wpAnyH_take (i := 22) (oi := { dst := some 25, op := Go.Op.fieldAddr 37 (Go.Operand.tmp 1) 4, type := 0, pos := "rows.go:66", after := #[{ on := 21, ground := Go.Ground.guard }], guard := some (21, true) }) (v := ?_) rfl (by kernel_rfl) (by kernel_rfl) (by kernel_rfl) (fun _ _ _ h => h) (Or.inl ⟨by rfl, ?_⟩) hHeld ?_
        rotate_left
        · (intro w0 hS0; (try dsimp only at hS0); go_simp; try with_reducible rfl)
        try simp only [Act.put, List.setIfInBounds_toArray, List.set_cons_zero, List.set_cons_succ]
        refine wpAnyH_take (i := 23) (oi := { dst := some 26, op := Go.Op.load 24 (Go.Operand.tmp 25), type := 24, pos := "rows.go:66", after := #[{ on := 22, ground := Go.Ground.data }, { on := 21, ground := Go.Ground.guard }], guard := some (21, true) }) (v := ?_) rfl (by kernel_rfl) (by kernel_rfl) (by kernel_rfl) (fun _ _ _ h => h) (Or.inl ⟨by rfl, ?_⟩) hHeld ?_
        rotate_left
        · (intro w0 hS0; (try dsimp only at hS0); go_simp; try with_reducible rfl)
        try simp only [Act.put, List.setIfInBounds_toArray, List.set_cons_zero, List.set_cons_succ]
        refine wpAnyH_take (i := 24) (oi := { dst := some 27, op := Go.Op.call { callee := Go.Callee.builtin Go.Builtin.len, args := #[Go.Operand.tmp 26], argTypes := #[24] }, type := 3, pos := "rows.go:66", after := #[{ on := 23, ground := Go.Ground.data }, { on := 21, ground := Go.Ground.guard }], guard := some (21, true) }) (v := ?_) rfl (by kernel_rfl) (by kernel_rfl) (by kernel_rfl) (fun _ _ _ h => h) (Or.inl ⟨by rfl, ?_⟩) hHeld ?_
        rotate_left
        · (intro w0 hS0; (try dsimp only at hS0); go_simp; try with_reducible rfl)
        try simp only [Act.put, List.setIfInBounds_toArray, List.set_cons_zero, List.set_cons_succ]
        refine wpAnyH_take (i := 25) (oi := { dst := some 28, op := Go.Op.fieldAddr 37 (Go.Operand.tmp 1) 0, type := 0, pos := "rows.go:66", after := #[{ on := 21, ground := Go.Ground.guard }], guard := some (21, true) }) (v := ?_) rfl (by kernel_rfl) (by kernel_rfl) (by kernel_rfl) (fun _ _ _ h => h) (Or.inl ⟨by rfl, ?_⟩) hHeld ?_
        rotate_left
        · (intro w0 hS0; (try dsimp only at hS0); go_simp; try with_reducible rfl)
        try simp only [Act.put, List.setIfInBounds_toArray, List.set_cons_zero, List.set_cons_succ]
        refine wpAnyH_take (i := 26) (oi := { dst := some 29, op := Go.Op.load 3 (Go.Operand.tmp 28), type := 3, pos := "rows.go:66", after := #[{ on := 25, ground := Go.Ground.data }, { on := 21, ground := Go.Ground.guard }], guard := some (21, true) }) (v := ?_) rfl (by kernel_rfl) (by kernel_rfl) (by kernel_rfl) (fun _ _ _ h => h) (Or.inl ⟨by rfl, ?_⟩) hHeld ?_
        rotate_left
        · (intro w0 hS0; (try dsimp only at hS0); go_simp; try with_reducible rfl)
        try simp only [Act.put, List.setIfInBounds_toArray, List.set_cons_zero, List.set_cons_succ]
        refine wpAnyH_take (i := 27) (oi := { dst := some 30, op := Go.Op.convert 3 107 (Go.Operand.tmp 29), type := 107, pos := "rows.go:66", after := #[{ on := 26, ground := Go.Ground.data }, { on := 21, ground := Go.Ground.guard }], guard := some (21, true) }) (v := ?_) rfl (by kernel_rfl) (by kernel_rfl) (by kernel_rfl) (fun _ _ _ h => h) (Or.inl ⟨by rfl, ?_⟩) hHeld ?_
        rotate_left
        · (intro w0 hS0; (try dsimp only at hS0); go_simp; try with_reducible rfl)
        try simp only [Act.put, List.setIfInBounds_toArray, List.set_cons_zero, List.set_cons_succ]
        refine wpAnyH_ready (rs := [28]) (by kernel_rfl) (by simp) (AllReadyH.cons (o := { dst := some 31, op := Go.Op.call { callee := Go.Callee.value (Go.Operand.func 60), args := #[Go.Operand.tmp 30], argTypes := #[107] }, type := 3, pos := "rows.go:66", after := #[{ on := 27, ground := Go.Ground.data }, { on := 21, ground := Go.Ground.chain }, { on := 21, ground := Go.Ground.guard }], guard := some (21, true) }) rfl (fun K hK => ?_) AllReadyH.nil)
        go_simp
        rw [HXW.out]
        refine HON.out.mono ?_
        rintro e w5 ⟨rfl, rfl⟩
        refine hK.out _ _ (hke2) (fun hHeld2 => ?_)
        clear hK K hHeld
        rename _ => hHeld
        try simp only [Act.put, List.setIfInBounds_toArray, List.set_cons_zero, List.set_cons_succ]
        refine wpAnyH_take (i := 29) (oi := { dst := some 32, op := Go.Op.binOp Go.BinOp.eql 3 (Go.Operand.tmp 27) (Go.Operand.tmp 31) 3, type := 4, pos := "rows.go:66", after := #[{ on := 24, ground := Go.Ground.data }, { on := 28, ground := Go.Ground.data }, { on := 21, ground := Go.Ground.guard }], guard := some (21, true) }) (v := ?_) rfl (by kernel_rfl) (by kernel_rfl) (by kernel_rfl) (fun _ _ _ h => h) (Or.inl ⟨by rfl, ?_⟩) hHeld ?_
        rotate_left
        · (intro w0 hS0; (try dsimp only at hS0); go_simp; try with_reducible rfl)
        try simp only [Act.put, List.setIfInBounds_toArray, List.set_cons_zero, List.set_cons_succ]
        refine wpAnyH_take (i := 30) (oi := { dst := some 33, op := Go.Op.pick (Go.Operand.tmp 24) (Go.Operand.tmp 32) (Go.Operand.const (Go.Value.bool false)), type := 4, pos := "rows.go:66", after := #[{ on := 21, ground := Go.Ground.data }, { on := 29, ground := Go.Ground.data }], guard := none }) (v := ?_) rfl (by kernel_rfl) (by kernel_rfl) (by kernel_rfl) (fun _ _ _ h => h) (Or.inl ⟨by rfl, ?_⟩) hHeld ?_
        rotate_left
        · (intro w0 hS0; (try dsimp only at hS0); go_simp; try with_reducible rfl)
        try simp only [Act.put, List.setIfInBounds_toArray, List.set_cons_zero, List.set_cons_succ]
        refine wpAnyH_take (i := 31) (oi := { dst := some 2, op := Go.Op.assign (Go.Operand.tmp 33), type := 4, pos := "rows.go:66", after := #[{ on := 30, ground := Go.Ground.data }, { on := 28, ground := Go.Ground.chain }, { on := 0, ground := Go.Ground.phase }, { on := 1, ground := Go.Ground.phase }, { on := 2, ground := Go.Ground.phase }, { on := 3, ground := Go.Ground.phase }, { on := 4, ground := Go.Ground.phase }, { on := 5, ground := Go.Ground.phase }, { on := 6, ground := Go.Ground.phase }, { on := 7, ground := Go.Ground.phase }, { on := 8, ground := Go.Ground.phase }, { on := 9, ground := Go.Ground.phase }, { on := 10, ground := Go.Ground.phase }, { on := 11, ground := Go.Ground.phase }, { on := 12, ground := Go.Ground.phase }, { on := 13, ground := Go.Ground.phase }, { on := 14, ground := Go.Ground.phase }, { on := 15, ground := Go.Ground.phase }, { on := 16, ground := Go.Ground.phase }, { on := 17, ground := Go.Ground.phase }, { on := 18, ground := Go.Ground.phase }, { on := 19, ground := Go.Ground.phase }, { on := 20, ground := Go.Ground.phase }, { on := 21, ground := Go.Ground.phase }, { on := 22, ground := Go.Ground.phase }, { on := 23, ground := Go.Ground.phase }, { on := 24, ground := Go.Ground.phase }, { on := 25, ground := Go.Ground.phase }, { on := 26, ground := Go.Ground.phase }, { on := 27, ground := Go.Ground.phase }, { on := 28, ground := Go.Ground.phase }, { on := 29, ground := Go.Ground.phase }, { on := 30, ground := Go.Ground.phase }], guard := none }) (v := ?_) rfl (by kernel_rfl) (by kernel_rfl) (by kernel_rfl) (fun _ _ _ h => h) (Or.inl ⟨by rfl, ?_⟩) hHeld ?_
        rotate_left
        · (intro w0 hS0; (try dsimp only at hS0); go_simp; try with_reducible rfl)
        try simp only [Act.put, List.setIfInBounds_toArray, List.set_cons_zero, List.set_cons_succ]
        refine wpAnyH_done (by kernel_rfl) ?_ _
        go_wp2_with fail
        go_ret
        refine ⟨?_, HM.out.trans0 HMB.out⟩
        show Ending.returned (.bool ((n : Int) == (Lib.onesCount X : Int))) = _
        rw [HEQ.out]
        rfl

end Go.Proofs.YtgnpmmhpeianpaaGreatDoor

/- rows: EncodeHead. -/
namespace Go.Proofs.YtgnpmmhpeianpaaGreatDoor
open Go.RowKit

/-- a head's bytes. -/
def encH (sz : Int) (root : ByteArray) (tk ep : Int) (nodes : List ByteArray) (sig : ByteArray) : List UInt8 := nBs [sz, tk, ep] ++ catS (root :: sig :: nodes)
def EhPost (sz : Int) (root : ByteArray) (tk ep : Int) (nodes : List ByteArray) (sig : ByteArray) (w : World) (e : Ending) (w' : World) : Prop :=
  if headR sz root tk ep nodes sig = true then ∃ A' n' c', e = .returned (.tuple #[.slice A' n' c', .int .i64 0]) ∧ n' = (encH sz root tk ep nodes sig).length ∧ Rd w' A' n' (by8 (encH sz root tk ep nodes sig)) ∧ n' ≤ c' ∧ c' ≤ 9223372036854775807 ∧ Mod Non w w'
  else e = .returned (.tuple #[.slice none 0 0, .int .i64 1]) ∧ Mod Non w w'
theorem ones_lt (x : Nat) (hx : x < 18446744073709551616) : Lib.onesCount x < 128 := by
  have := (swar x _ _ _ _ hx rfl rfl rfl rfl).2
  omega
theorem onesI_lt (n : Int) : onesI n < 128 := ones_lt _ (by omega)
theorem headR_len {sz : Int} {root : ByteArray} {tk ep : Int} {nodes : List ByteArray} {sig : ByteArray} (h : headR sz root tk ep nodes sig = true) :
    (∀ s ∈ root :: sig :: nodes, s.size = 32) ∧ nodes.length < 128 := by
  unfold headR hashAll isH at h
  simp only [Bool.and_eq_true, List.all_cons, List.all_nil, decide_eq_true_eq, List.all_eq_true] at h
  obtain ⟨_, ⟨h1, h2, _⟩, h3, h4⟩ := h
  refine ⟨fun s hs => ?_, by rw [h4]; exact onesI_lt sz⟩
  simp only [List.mem_cons] at hs
  rcases hs with rfl | rfl | hs
  · exact h1
  · exact h2
  · exact h3 s hs
set_option maxRecDepth 100000 in
theorem infoS : ∃ i, Tryz.prog.info? 9 = some i ∧ i.zero = some (.string ⟨#[]⟩) ∧ i.size = 1 ∧ i.bytes = 16 := by
  first | exact ⟨_, by kernel_rfl, rfl, rfl, rfl⟩ | exact ⟨_, rfl, rfl, rfl, rfl⟩

set_option maxRecDepth 100000 in
set_option maxHeartbeats 4000000 in
theorem encHead_any (sz : Int) (root : ByteArray) (tk ep : Int) (A : Option Addr) (n c : Nat) (nodes : List ByteArray) (sig : ByteArray) (w : World) (hr : Rd w A n (nodes.map Value.string)) (hn : n ≤ 9223372036854775807) :
    Calls Tryz.prog 12 #[.agg (hCells sz root tk ep A n c sig)] w (EhPost sz root tk ep nodes sig w) := by
  have hnl : nodes.length = n := by simpa using hr.1
  obtain ⟨w0, hw0⟩ : ∃ w0, w0 = w.alloc (.cells (hCells sz root tk ep A n c sig) 37) := ⟨_, rfl⟩
  have hb0 : Blk w0 w.heap.size 37 (hCells sz root tk ep A n c sig) := by rw [hw0]; exact Blk.new _ _ _
  have hm0 : Mod Non w w0 := by rw [hw0]; exact (Mod.refl Non w).alloc _
  have HTR := Lib.hid (headRight_any sz root tk ep A n c nodes sig w0 (hr.mod0 hm0) hn)
  unfold hCells at hb0 hw0 HTR ⊢
  have c0 : w0.cell? ⟨w.heap.size, 0, none⟩ = some (.int .i64 sz) := hb0.cell 0
  have c1 : w0.cell? ⟨w.heap.size, 1, none⟩ = some (.string root) := hb0.cell 1
  have c2 : w0.cell? ⟨w.heap.size, 2, none⟩ = some (.int .i64 tk) := hb0.cell 2
  have c3 : w0.cell? ⟨w.heap.size, 3, none⟩ = some (.int .i64 ep) := hb0.cell 3
  have c4 : w0.cell? ⟨w.heap.size, 4, none⟩ = some (.slice A n c) := hb0.cell 4
  have c5 : w0.cell? ⟨w.heap.size, 5, none⟩ = some (.string sig) := hb0.cell 5
  have HM := Lib.hid hm0
  have HB := Lib.hid hb0
  have HW0 := Lib.hid hw0
  have HR := Lib.hid (hr.mod0 hm0)
  have HNL := Lib.hid hnl
  clear hb0 hm0 hw0 hr hnl
  unfold EhPost
  obtain ⟨b, hb⟩ : ∃ b, headR sz root tk ep nodes sig = b := ⟨_, rfl⟩
  rw [hb] at HTR ⊢
  cases b with
  | false =>
    clear hb
    simp only [Bool.false_eq_true, if_false]
    go_enter Tryz.func12, Tryz.ntmps12
    go_wp2_with fail
    rw [← HW0.out]
    refine HTR.out.mono ?_
    rintro r w1 ⟨rfl, hm1⟩
    have HM1 := Lib.hid (HM.out.trans0 hm1)
    clear hm1
    go_wp2_with fail
    go_ret2
    exact ⟨rfl, HM1.out⟩
  | true =>
    obtain ⟨hl1, hl2⟩ := headR_len hb
    rw [HNL.out] at hl2
    obtain ⟨R, hR⟩ : ∃ R, encH sz root tk ep nodes sig = R := ⟨_, rfl⟩
    rw [hR]
    unfold encH at hR
    have h27 := nBs_len [sz, tk, ep]
    obtain ⟨P, hP⟩ : ∃ P, nBs [sz, tk, ep] = P := ⟨_, rfl⟩
    rw [hP] at hR h27
    obtain ⟨xs, hxs⟩ : ∃ xs, root :: sig :: nodes = xs := ⟨_, rfl⟩
    rw [hxs] at hR hl1
    have hxl : xs.length = 2 + n := by rw [← hxs]; simp [HNL.out]; omega
    have hxm : [Value.string root, Value.string sig] ++ nodes.map Value.string = xs.map Value.string := by rw [← hxs]; rfl
    have HRR := Lib.hid hR
    have HP := Lib.hid hP
    have HXL := Lib.hid hxl
    have HXM := Lib.hid hxm
    have HL1 := Lib.hid hl1
    simp only [List.length_cons, List.length_nil] at h27
    clear hb hR hP hxs hxl hxm hl1
    simp only [if_true]
    go_enter Tryz.func12, Tryz.ntmps12
    go_wp2_with fail
    rw [← HW0.out]
    refine HTR.out.mono ?_
    rintro r w1 ⟨rfl, hm1⟩
    have HM1 := Lib.hid (HM.out.trans0 hm1)
    have HB1 := Lib.hid (HB.out.mod hm1 fun h => h)
    have HR1 := Lib.hid (HR.out.mod0 hm1)
    clear hm1 c0 c1 c2 c3 c4 c5
    have HKE : Hid (∀ W, Mod Non w1 W → W.cell? ⟨w.heap.size, 0, none⟩ = some (.int .i64 sz) ∧ W.cell? ⟨w.heap.size, 1, none⟩ = some (.string root) ∧ W.cell? ⟨w.heap.size, 2, none⟩ = some (.int .i64 tk) ∧ W.cell? ⟨w.heap.size, 3, none⟩ = some (.int .i64 ep) ∧ W.cell? ⟨w.heap.size, 4, none⟩ = some (.slice A n c) ∧ W.cell? ⟨w.heap.size, 5, none⟩ = some (.string sig)) :=
      fun W hW => ⟨(HB1.out.mod hW fun h => h).cell 0, (HB1.out.mod hW fun h => h).cell 1, (HB1.out.mod hW fun h => h).cell 2, (HB1.out.mod hW fun h => h).cell 3, (HB1.out.mod hW fun h => h).cell 4, (HB1.out.mod hW fun h => h).cell 5⟩
    have hke1 := HKE.out _ (Mod.refl Non w1)
    obtain ⟨k0, k1, k2, k3, k4, k5⟩ := hke1
    have HMA := Lib.hid (((Mod.refl Non w1)).alloc (.cells #[.int .i64 sz, .int .i64 tk, .int .i64 ep] 3))
    have HRD := Lib.hid (rd_new w1 3 [.int .i64 sz, .int .i64 tk, .int .i64 ep])
    go_wp2_with fail
    refine (numsO_any _ 3 _ [sz, tk, ep] _ HRD.out (by omega)).mono ?_
    rintro e w2 ⟨A2, n2, c2, rfl, hn2, ho2, hb2⟩
    rw [HP.out] at hn2 ho2
    have HM2 := Lib.hid (HMA.out.trans0 (Mod.of_below hb2))
    obtain ⟨j0, j1, j2, j3, j4, j5⟩ := HKE.out w2 HM2.out
    have HR2 := Lib.hid (HR1.out.mod0 HM2.out)
    have HO2 := Lib.hid ho2
    have HN2 := Lib.hid hn2
    have hz2 := hb2.size
    have hn2b : n2 ≤ 27 := by omega
    clear hn2 ho2 hb2 k0 k1 k2 k3 k4 k5
    obtain ⟨iS, hiS, hzS, hsS, hbS⟩ := infoS
    have HRS := Lib.hid (HR2.out.alloc (.cells #[.string root, .string sig] 9))
    have hol := World.ownsRow_lit (e := 9) (base := w2.heap.size) (size := 1) w2 #[.string root, .string sig] 2 (Nat.le_refl _) (by simp [maxLen]) rfl
    have HOL := Lib.hid hol
    have l4 := (HKE.out _ (HM2.out.alloc (.cells #[.string root, .string sig] 9))).2.2.2.2.1
    have hmx : maxLen = 9223372036854775807 := rfl
    clear hol
    go_wp2_with (at_builtin; refine wpList_app _ rfl (.tmp 22) (.tmp 24) 24 rfl w2.heap.size 9 iS (.string ⟨#[]⟩) 16 Tryz.underlying24 hiS hzS hsS hbS rfl (.slice (some ⟨w2.heap.size, 0, none⟩) 2 2) 2 [.string root, .string sig] rfl HOL.out A n c (nodes.map Value.string) rfl HRS.out (by intro u hu; obtain ⟨x, _, rfl⟩ := List.mem_map.1 hu; rfl) (by omega) (by omega) (by simp) ?_; intro v3 w3 ho3 hg3 ha3; obtain ⟨A3, c3, rfl, hc3, hc3'⟩ := own_slice ho3)
    rw [HXM.out] at ho3
    have hr3 := Rd.of_own ho3
    have hA3 : ∀ b, blkOf A3 = some b → w2.heap.size ≤ b ∧ b < w3.heap.size := fun b hb => by
      refine ⟨own_base ho3 b hb, ?_⟩
      obtain ⟨b', h1, h2⟩ := hr3.lt (by omega)
      rw [hb] at h1
      cases h1
      exact h2
    have HA3 := Lib.hid hA3
    have hm3 : Mod Non w w3 := by
      refine ((HM1.out.trans0 HM2.out).alloc (.cells #[.string root, .string sig] 9)).grown hg3 fun k hk => .inr ?_
      have e : w2.heap.size = k := by simpa [Value.ownBlock] using hk
      have := HM1.out.size
      have := HM2.out.size
      omega
    have hz23 : w2.heap.size ≤ w3.heap.size := by have := hg3.size; simp at this; omega
    have h2o : ∀ b, blkOf A2 = some b → w.heap.size ≤ b ∧ b < w2.heap.size := fun b hb => by
      have h1 := own_base HO2.out b hb
      have h2 := HM1.out.size
      have h3 : w1.heap.size ≤ b := by simp at h1; omega
      refine ⟨by omega, ?_⟩
      exact (HO2.out.lt b (by cases A2 <;> exact hb)).2
    have HO3 : Hid (w3.ownsRow w.heap.size 5 1 (.slice A2 n2 c2) n2 (by8 P)) := by
      refine own_mono (own_mod (S := fun k => w2.heap.size ≤ k) HO2.out ?_ ?_) ?_
      · refine ((Mod.refl _ w2).alloc (.cells #[.string root, .string sig] 9)).grown hg3 fun k hk => .inl ?_
        have e : w2.heap.size = k := by simpa [Value.ownBlock] using hk
        omega
      · intro b hb hs
        have := (HO2.out.lt b hb).2
        omega
      · have := HM1.out.size
        simp; omega
    have HR3 := Lib.hid hr3
    have HM3 := Lib.hid hm3
    have H2O := Lib.hid h2o
    obtain ⟨_, _, he2, hc2, hc2'⟩ := own_slice HO2.out
    cases he2
    clear hr3 hm3 h2o hA3 ho3 hg3 ha3 j0 j1 j2 j3 j4 j5 l4 hiS hzS hsS hbS
    go_loopw [4, 27] (fun v i wr => ∃ (k q cq : Nat) (Aq : Option Addr) (dd : List UInt8), k ≤ 2 + n ∧ i = .int .i64 k ∧ v = .slice Aq q cq ∧ q ≤ cq ∧ cq ≤ 9223372036854775807 ∧ q ≤ 27 + 32 * k ∧ Hid (dd = P ++ catS (xs.take k)) ∧ Hid (wr.ownsRow w.heap.size 5 1 (.slice Aq q cq) q (by8 dd)) ∧ Hid (∀ b, blkOf Aq = some b → b < w2.heap.size ∨ w3.heap.size ≤ b) ∧ Hid (Rd wr A3 (2 + n) (xs.map Value.string)) ∧ Hid (Mod Non w wr) ∧ w3.heap.size ≤ wr.heap.size) (fun _ i _ => (2 + n) - (intOf i).toNat)
    case atStart => exact ⟨0, n2, c2, A2, P, Nat.zero_le _, rfl, rfl, hc2, by omega, by omega, by show _ = _; simp [catS], HO3.out, fun b hb => .inl (H2O.out b hb).2, HR3.out, HM3.out, Nat.le_refl _⟩
    case round =>
      obtain ⟨k, q, cq, Aq, dd, hk, rfl, rfl, hq1, hq2, hq3, HD, HOq, HBq, HRr, HMr, hzr⟩ := hrel
      rename World => wr
      by_cases hlt : k < 2 + n
      · obtain ⟨b, o, rfl, u, hu, hc⟩ := HRr.out.at_ hlt
        rw [List.getElem?_map] at hu
        obtain ⟨x, hx, rfl⟩ := Option.map_eq_some_iff.1 hu
        have hxs : x.size = 32 := HL1.out x (List.mem_of_getElem? hx)
        have hb3 := HA3.out b rfl
        have HX : Hid ((dd ++ x.data.toList) = P ++ catS (xs.take (k + 1))) := by
          show _ = _
          rw [take_snoc' xs k x hx, catS_snoc, HD.out, List.append_assoc]
        have i1 : (0 : Int) ≤ (k : Int) := by omega
        have i2 : (k : Int) < ((2 + n : Nat) : Int) := by omega
        have hzw := HMr.out.size
        clear hu hx
        go_wp2_with (at_builtin; refine wpList_appS _ bt Tryz.underlying9 rfl (.tmp 31) (.tmp 32) rfl w.heap.size (.slice Aq q cq) q dd rfl HOq.out x rfl (q + 32) (by omega) _ rfl (by omega) hzw ?_; intro A' c' w' hc' hc'' ho' hg' ha')
        have hS : Mod (fun j => blkOf Aq = some j) wr w' := Mod.of_grown hg' fun j hj => by cases Aq <;> exact hj
        have HR' : Hid (Rd w' (some ⟨b, o, none⟩) (2 + n) (xs.map Value.string)) := HRr.out.mod hS fun _ j hj hs => by
          cases hj
          have := HBq.out b hs
          omega
        have HM' : Hid (Mod Non w w') := HMr.out.grown hg' fun j hj => .inr (own_base HOq.out j (by cases Aq <;> exact hj))
        have HB' : Hid (∀ b, blkOf A' = some b → b < w2.heap.size ∨ w3.heap.size ≤ b) := fun j hj => by
          rcases ha' with h | h
          · exact HBq.out j (by rw [← hj, h]; cases Aq <;> rfl)
          · rw [hj] at h
            cases h
            exact .inr hzr
        have HO' := Lib.hid ho'
        have hz' : w3.heap.size ≤ w'.heap.size := by have := hS.size; omega
        clear ho' hg' ha' hS hc
        go_wp2_with fail
        go_roundw
        case rel => exact ⟨k + 1, q + 32, c', A', _, by omega, by go_num, rfl, hc', hc'', by omega, HX.out, HO'.out, HB'.out, HR'.out, HM'.out, hz'⟩
        case measure => simp [intOf]; omega
      · obtain rfl : k = 2 + n := by omega
        have hfin : dd = R := by rw [HD.out, List.take_of_length_le (by rw [HXL.out]; omega), HRR.out]
        have HF := Lib.hid hfin
        have hdl : dd.length = q := by simpa using (Rd.of_own HOq.out).1
        have HDL := Lib.hid hdl
        clear hfin hdl
        go_wp2_with fail
        go_ret2
        exact ⟨Aq, q, cq, rfl, by rw [← HF.out, HDL.out], by rw [← HF.out]; exact Rd.of_own HOq.out, hq1, hq2, HMr.out⟩

end Go.Proofs.YtgnpmmhpeianpaaGreatDoor

/- sawyerref16: ones, Check. -/
namespace Go.Proofs.YtgnpmmhpeianpaaGreatDoor
open Go.RowKit

theorem pop_zero (k : Nat) : Lib.popAux k 0 = 0 := by
  induction k with
  | zero => rfl
  | succ k ih => rw [Lib.popAux]; simpa using ih
theorem pop_small {k x : Nat} (h : x < 2 ^ k) : ∀ m, k ≤ m → Lib.popAux m x = Lib.popAux k x := by
  induction k generalizing x with
  | zero =>
    intro m _
    obtain rfl : x = 0 := by simp at h; omega
    rw [pop_zero, pop_zero]
  | succ k ih =>
    intro m hm
    obtain ⟨j, rfl⟩ : ∃ j, m = j + 1 := ⟨m - 1, by omega⟩
    rw [Lib.popAux, Lib.popAux, ih (by rw [Nat.pow_succ] at h; omega) j (by omega)]

set_option maxRecDepth 100000 in
set_option maxHeartbeats 1000000 in
theorem onesR_any (x : Nat) (w : World) (hx : x ≤ 1099511627776) : Calls Tryz.prog 101 #[.int .i64 (x : Int)] w fun e w' => e = .returned (.int .i64 (Lib.onesCount x : Int)) ∧ w' = w := by
  have hlt := ones_lt x (by omega)
  have h41 : Lib.popAux 41 x = Lib.onesCount x := (pop_small (k := 41) (x := x) (by omega) 64 (by omega)).symm
  obtain ⟨R, hR⟩ : ∃ R, Lib.onesCount x = R := ⟨_, rfl⟩
  rw [hR] at hlt h41 ⊢
  have H41 := Lib.hid h41
  clear hR h41
  go_enter Tryz.func101, Tryz.ntmps101
  go_wp2_with fail
  go_loop [0, 3] (fun nv kv => ∃ (y f acc : Nat), nv = .int .i64 y ∧ kv = .int .i64 acc ∧ f ≤ 41 ∧ y ≤ 1099511627776 ∧ acc ≤ 128 ∧ Hid (y < 2 ^ f) ∧ Hid (acc + Lib.popAux f y = R)) (fun nv _ => (intOf nv).toNat)
  case atStart => exact ⟨x, 41, 0, rfl, rfl, by omega, hx, by omega, by show _ < _; omega, by show _ = _; rw [Nat.zero_add]; exact H41.out⟩
  case round =>
    obtain ⟨y, f, acc, rfl, rfl, hf, hy, hacc, HY, HP⟩ := hrel
    by_cases h0 : 0 < y
    · have hy2 := HY.out
      have hp := HP.out
      obtain ⟨g, rfl⟩ : ∃ g, f = g + 1 := ⟨f - 1, by
        rcases f with _ | f
        · simp at hy2; omega
        · omega⟩
      rw [Lib.popAux] at hp
      rw [Nat.pow_succ] at hy2
      have HP2 : Hid ((acc + y % 2) + Lib.popAux g (y / 2) = R) := by show _ = _; omega
      have HY2 : Hid (y / 2 < 2 ^ g) := by show _ < _; omega
      have hle : acc + y % 2 ≤ R := by omega
      have i1 : (0 : Int) < (y : Int) := by omega
      clear hy2 hp
      go_wp2_with fail
      go_round
      case rel => exact ⟨y / 2, g, acc + y % 2, by go_num, by go_num, by omega, by omega, by omega, HY2.out, HP2.out⟩
      case measure => simp [intOf]; omega
    · obtain rfl : y = 0 := by omega
      have hR : acc = R := by have := HP.out; rw [pop_zero] at this; omega
      have HR := Lib.hid hR
      clear hR
      go_wp2_with fail
      go_ret
      exact ⟨by rw [← HR.out]; rfl, rfl⟩

/-- the reference's Check of a span. -/
def spanR (sz : Int) (nodes : List ByteArray) : Bool := decide (0 ≤ sz ∧ sz ≤ 1099511627776) && (decide (nodes.length = onesI sz) && hashAll nodes)

set_option maxRecDepth 100000 in
set_option maxHeartbeats 4000000 in
theorem ckSpan_any (sz : Int) (A : Option Addr) (n c : Nat) (nodes : List ByteArray) (w : World) (hr : Rd w A n (nodes.map Value.string)) (hn : n ≤ 9223372036854775807) :
    Calls Tryz.prog 62 #[.agg #[.int .i64 sz, .slice A n c]] w fun e w' => e = .returned (.int .i64 (if spanR sz nodes = true then 0 else 1)) ∧ Mod Non w w' := by
  have hnl : nodes.length = n := by simpa using hr.1
  obtain ⟨w0, hw0⟩ : ∃ w0, w0 = w.alloc (.cells #[.int .i64 sz, .slice A n c] 110) := ⟨_, rfl⟩
  have hb0 : Blk w0 w.heap.size 110 #[.int .i64 sz, .slice A n c] := by rw [hw0]; exact Blk.new _ _ _
  have hm0 : Mod Non w w0 := by rw [hw0]; exact (Mod.refl Non w).alloc _
  have HM := Lib.hid hm0
  have HB := Lib.hid hb0
  have HR := Lib.hid (hr.mod0 hm0)
  have HNL := Lib.hid hnl
  have HW0 := Lib.hid hw0
  have c0 : w0.cell? ⟨w.heap.size, 0, none⟩ = some (.int .i64 sz) := hb0.cell 0
  have c1 : w0.cell? ⟨w.heap.size, 1, none⟩ = some (.slice A n c) := hb0.cell 1
  clear hb0 hm0 hr hnl hw0
  by_cases h0 : sz < 0
  · have hs : spanR sz nodes = false := by unfold spanR; rw [decide_eq_false (by omega)]; rfl
    rw [hs]
    simp only [Bool.false_eq_true, if_false]
    have d0 : decide (sz < 0) = true := decide_eq_true h0
    have HO : Hid (∀ W : World, True) := fun _ => trivial
    clear hs h0
    go_enter Tryz.func62, Tryz.ntmps62
    go_wp2_with fail
    rw [← HW0.out]
    go_quiet (fail)
    go_wp2_with fail
    go_ret
    exact ⟨rfl, HM.out.drewN _⟩
  · have d0 : decide (sz < 0) = false := decide_eq_false h0
    by_cases h1 : 1099511627776 < sz
    · have hs : spanR sz nodes = false := by unfold spanR; rw [decide_eq_false (by omega)]; rfl
      rw [hs]
      simp only [Bool.false_eq_true, if_false]
      have d1 : decide (1099511627776 < sz) = true := decide_eq_true h1
      clear hs h0 h1
      go_enter Tryz.func62, Tryz.ntmps62
      go_wp2_with fail
      rw [← HW0.out]
      go_quiet (fail)
      go_wp2_with fail
      go_ret
      exact ⟨rfl, HM.out.drewN _⟩
    · have d1 : decide (1099511627776 < sz) = false := decide_eq_false h1
      obtain ⟨y, rfl⟩ := Int.eq_ofNat_of_zero_le (show 0 ≤ sz by omega)
      have HO : Hid (∀ W : World, Calls Tryz.prog 101 #[.int .i64 (y : Int)] W fun e w' => e = .returned (.int .i64 (Lib.onesCount y : Int)) ∧ w' = W) := fun W => onesR_any y W (by omega)
      have hoi : onesI (y : Int) = Lib.onesCount y := by unfold onesI; congr 1; omega
      have hs : spanR (y : Int) nodes = (decide (n = Lib.onesCount y) && hashAll nodes) := by
        unfold spanR
        rw [decide_eq_true (by omega), HNL.out, hoi]
        rfl
      rw [hs]
      obtain ⟨K, hK⟩ : ∃ K, Lib.onesCount y = K := ⟨_, rfl⟩
      rw [hK] at HO ⊢
      clear hs hoi hK h0 h1
      by_cases h2 : n = K
      · have e2 : ((n : Int) != (K : Int)) = false := by simp [h2]
        rw [decide_eq_true h2, Bool.true_and]
        obtain ⟨r, hres⟩ : ∃ r : Int, (if hashAll nodes = true then (0 : Int) else 1) = r := ⟨_, rfl⟩
        rw [hres]
        have HRES := Lib.hid hres
        clear h2 hres
        go_enter Tryz.func62, Tryz.ntmps62
        go_wp2_with fail
        rw [← HW0.out]
        go_quiet (first | (go_at_call 101; refine Calls.quiet_of_same (HO.out _)))
        generalize hwq : World.drewN w0 _ = wq
        have HBq : Hid (Blk wq w.heap.size 110 #[.int .i64 (y : Int), .slice A n c]) := by rw [← hwq]; exact HB.out.drewN _
        have HRq : Hid (Rd wq A n (nodes.map Value.string)) := by rw [← hwq]; exact HR.out.drewN _
        have HMq : Hid (Mod Non w wq) := by rw [← hwq]; exact HM.out.drewN _
        have g1 : wq.cell? ⟨w.heap.size, 1, none⟩ = some (.slice A n c) := HBq.out.cell 1
        clear hwq c0 c1 HB HR HM HO e2
        go_wp2_with fail
        go_loop [3] (fun i => ∃ (j : Nat), j ≤ n ∧ i = .int .i64 j ∧ Hid (∀ x ∈ nodes.take j, isH x = true)) (fun i => n - (intOf i).toNat)
        case atStart => exact ⟨0, Nat.zero_le _, rfl, fun x hx => by simp at hx⟩
        case round =>
          obtain ⟨j, hj, rfl, HA⟩ := hrel
          by_cases hlt : j < n
          · obtain ⟨b, o, rfl, u, hu, hc⟩ := HRq.out.at_ hlt
            rw [List.getElem?_map] at hu
            obtain ⟨x, hx, rfl⟩ := Option.map_eq_some_iff.1 hu
            have HX := Lib.hid hx
            have i1 : (0 : Int) ≤ (j : Int) := by omega
            have i2 : (j : Int) < (n : Int) := by omega
            clear hu hx
            by_cases h32 : x.size = 32
            · have e3 : ((x.size : Int) != 32) = false := by rw [h32]; rfl
              have HH32 := Lib.hid h32
              clear h32
              go_wp2_with fail
              go_round
              case rel =>
                refine ⟨j + 1, by omega, by go_num, fun y hy => ?_⟩
                rw [List.take_add_one, List.mem_append] at hy
                rcases hy with hy | hy
                · exact HA.out y hy
                · rw [HX.out] at hy
                  simp only [Option.toList_some, List.mem_singleton] at hy
                  rw [hy]
                  exact decide_eq_true HH32.out
              case measure => simp [intOf]; omega
            · have e3 : ((x.size : Int) != 32) = true := by rw [bne_iff_ne]; omega
              have hf : hashAll nodes = false := by
                unfold hashAll
                rw [List.all_eq_false]
                exact ⟨x, List.mem_of_getElem? HX.out, by unfold isH; simp [h32]⟩
              have hr1 : r = 1 := by rw [← HRES.out, hf]; rfl
              have HF := Lib.hid hr1
              clear h32 hf hr1
              go_wp2_with fail
              go_ret
              exact ⟨by rw [HF.out]; rfl, HMq.out⟩
          · obtain rfl : j = n := by omega
            have hf : hashAll nodes = true := by
              unfold hashAll
              rw [List.all_eq_true]
              intro x hx
              exact HA.out x (by rw [List.take_of_length_le (by rw [HNL.out]; omega)]; exact hx)
            have hr1 : r = 0 := by rw [← HRES.out, hf]; rfl
            have HF := Lib.hid hr1
            clear hf hr1
            go_wp2_with fail
            go_ret
            exact ⟨by rw [HF.out]; rfl, HMq.out⟩
      · have e2 : ((n : Int) != (K : Int)) = true := by rw [bne_iff_ne]; omega
        rw [decide_eq_false h2, Bool.false_and]
        simp only [Bool.false_eq_true, if_false]
        clear h2
        go_enter Tryz.func62, Tryz.ntmps62
        go_wp2_with fail
        rw [← HW0.out]
        go_quiet (first | (go_at_call 101; refine Calls.quiet_of_same (HO.out _)))
        go_wp2_with fail
        go_ret
        exact ⟨rfl, HM.out.drewN _⟩

end Go.Proofs.YtgnpmmhpeianpaaGreatDoor

/- sawyerlaw18: tree, head, theirTree, theirHead. -/
namespace Go.Proofs.YtgnpmmhpeianpaaGreatDoor
open Go.RowKit

set_option maxRecDepth 100000 in
set_option maxHeartbeats 1000000 in
theorem tree_any (id st q : Int) (nm ky : ByteArray) (w : World) : Calls Tryz.prog 6 #[.agg (tCells id st q nm ky)] w fun e w' => e = .returned (.agg (tCells id st q nm ky)) ∧ Mod Non w w' := by
  have HB : Hid (Blk ((w.alloc (.cells (tCells id st q nm ky) 23)).alloc (.cells (tCells id st q nm ky) 32)) (w.heap.size + 1) 32 (tCells id st q nm ky)) := by
    have h9 := Blk.new (w.alloc (.cells (tCells id st q nm ky) 23)) 32 (tCells id st q nm ky)
    rw [World.size_alloc] at h9
    exact h9
  have HM : Hid (Mod Non w ((w.alloc (.cells (tCells id st q nm ky) 23)).alloc (.cells (tCells id st q nm ky) 32))) := ((Mod.refl Non w).alloc _).alloc _
  unfold tCells at HB HM ⊢
  go_enter Tryz.func6, Tryz.ntmps6
  go_wp2_with fail
  refine bodyPost_ret (results_cell_row rfl _ _ (w.heap.size + 1) 32 _ (0, 0) _ rfl HB.out Tryz.underlying32 rfl (by kernel_rfl)) rfl ?_
  exact ⟨rfl, HM.out⟩

set_option maxRecDepth 100000 in
set_option maxHeartbeats 1000000 in
theorem head_any (sz : Int) (root : ByteArray) (tk ep : Int) (A : Option Addr) (n c : Nat) (sig : ByteArray) (w : World) : Calls Tryz.prog 10 #[.agg (hCells sz root tk ep A n c sig)] w fun e w' => e = .returned (.agg (hCells sz root tk ep A n c sig)) ∧ Mod Non w w' := by
  have HB : Hid (Blk ((w.alloc (.cells (hCells sz root tk ep A n c sig) 26)).alloc (.cells (hCells sz root tk ep A n c sig) 37)) (w.heap.size + 1) 37 (hCells sz root tk ep A n c sig)) := by
    have h9 := Blk.new (w.alloc (.cells (hCells sz root tk ep A n c sig) 26)) 37 (hCells sz root tk ep A n c sig)
    rw [World.size_alloc] at h9
    exact h9
  have HM : Hid (Mod Non w ((w.alloc (.cells (hCells sz root tk ep A n c sig) 26)).alloc (.cells (hCells sz root tk ep A n c sig) 37))) := ((Mod.refl Non w).alloc _).alloc _
  unfold hCells at HB HM ⊢
  go_enter Tryz.func10, Tryz.ntmps10
  go_wp2_with fail
  refine bodyPost_ret (results_cell_row rfl _ _ (w.heap.size + 1) 37 _ (0, 0) _ rfl HB.out Tryz.underlying37 rfl (by kernel_rfl)) rfl ?_
  exact ⟨rfl, HM.out⟩

set_option maxRecDepth 100000 in
set_option maxHeartbeats 1000000 in
theorem theirTree_any (id st q : Int) (nm ky : ByteArray) (w : World) : Calls Tryz.prog 18 #[.agg (tCells id st q nm ky)] w fun e w' => e = .returned (.agg (tCells id st q nm ky)) ∧ Mod Non w w' := by
  have HB : Hid (Blk ((w.alloc (.cells (tCells id st q nm ky) 32)).alloc (.cells (tCells id st q nm ky) 23)) (w.heap.size + 1) 23 (tCells id st q nm ky)) := by
    have h9 := Blk.new (w.alloc (.cells (tCells id st q nm ky) 32)) 23 (tCells id st q nm ky)
    rw [World.size_alloc] at h9
    exact h9
  have HM : Hid (Mod Non w ((w.alloc (.cells (tCells id st q nm ky) 32)).alloc (.cells (tCells id st q nm ky) 23))) := ((Mod.refl Non w).alloc _).alloc _
  unfold tCells at HB HM ⊢
  go_enter Tryz.func18, Tryz.ntmps18
  go_wp2_with fail
  refine bodyPost_ret (results_cell_row rfl _ _ (w.heap.size + 1) 23 _ (0, 0) _ rfl HB.out Tryz.underlying23 rfl (by kernel_rfl)) rfl ?_
  exact ⟨rfl, HM.out⟩

set_option maxRecDepth 100000 in
set_option maxHeartbeats 1000000 in
theorem theirHead_any (sz : Int) (root : ByteArray) (tk ep : Int) (A : Option Addr) (n c : Nat) (sig : ByteArray) (w : World) : Calls Tryz.prog 20 #[.agg (hCells sz root tk ep A n c sig)] w fun e w' => e = .returned (.agg (hCells sz root tk ep A n c sig)) ∧ Mod Non w w' := by
  have HB : Hid (Blk ((w.alloc (.cells (hCells sz root tk ep A n c sig) 37)).alloc (.cells (hCells sz root tk ep A n c sig) 26)) (w.heap.size + 1) 26 (hCells sz root tk ep A n c sig)) := by
    have h9 := Blk.new (w.alloc (.cells (hCells sz root tk ep A n c sig) 37)) 26 (hCells sz root tk ep A n c sig)
    rw [World.size_alloc] at h9
    exact h9
  have HM : Hid (Mod Non w ((w.alloc (.cells (hCells sz root tk ep A n c sig) 37)).alloc (.cells (hCells sz root tk ep A n c sig) 26))) := ((Mod.refl Non w).alloc _).alloc _
  unfold hCells at HB HM ⊢
  go_enter Tryz.func20, Tryz.ntmps20
  go_wp2_with fail
  refine bodyPost_ret (results_cell_row rfl _ _ (w.heap.size + 1) 26 _ (0, 0) _ rfl HB.out Tryz.underlying26 rfl (by kernel_rfl)) rfl ?_
  exact ⟨rfl, HM.out⟩

end Go.Proofs.YtgnpmmhpeianpaaGreatDoor

/- sawyerref15.Same, sawyerref18.SameHead where all is the same. -/
namespace Go.Proofs.YtgnpmmhpeianpaaGreatDoor
open Go.RowKit

set_option maxRecDepth 100000 in
set_option maxHeartbeats 1000000 in
theorem sameT_eq (A B : Option Addr) (n c d : Nat) (xs : List ByteArray) (w : World) (h1 : Rd w A n (xs.map Value.string)) (h2 : Rd w B n (xs.map Value.string)) (hn : n ≤ 9223372036854775807) :
    Calls Tryz.prog 40 #[.slice A n c, .slice B n d] w fun e w' => e = .returned (.bool true) ∧ Mod Non w w' := by
  have H1 := Lib.hid h1
  have H2 := Lib.hid h2
  clear h1 h2
  go_enter Tryz.func40, Tryz.ntmps40
  go_wp2_with fail
  go_loopw [5] (fun i wr => ∃ (j : Nat), j ≤ n ∧ i = .int .i64 j ∧ Hid (Mod Non w wr)) (fun i _ => n - (intOf i).toNat)
  case atStart => exact ⟨0, Nat.zero_le _, rfl, Mod.refl _ _⟩
  case round =>
    obtain ⟨j, hj, rfl, HM⟩ := hrel
    rename World => wr
    by_cases hlt : j < n
    · obtain ⟨b, o, rfl, u, hu, hc⟩ := (H1.out.mod0 HM.out).at_ hlt
      obtain ⟨b2, o2, rfl, u2, hu2, hc2⟩ := (H2.out.mod0 HM.out).at_ hlt
      rw [hu] at hu2
      cases hu2
      rw [List.getElem?_map] at hu
      obtain ⟨x, hx, rfl⟩ := Option.map_eq_some_iff.1 hu
      have i1 : (0 : Int) ≤ (j : Int) := by omega
      have i2 : (j : Int) < (n : Int) := by omega
      clear hu hx
      go_wp2_with fail
      go_quiet (fail)
      go_wp2_with fail
      go_roundw
      case rel => exact ⟨j + 1, by omega, by go_num, HM.out.drewN _⟩
      case measure => simp [intOf]; omega
    · obtain rfl : j = n := by omega
      go_wp2_with fail
      go_ret
      exact ⟨rfl, HM.out⟩

set_option maxRecDepth 100000 in
set_option maxHeartbeats 4000000 in
theorem sameHead_eq (sz : Int) (root : ByteArray) (tk ep : Int) (A B : Option Addr) (n c d : Nat) (nodes : List ByteArray) (sig : ByteArray) (w : World) (h1 : Rd w A n (nodes.map Value.string)) (h2 : Rd w B n (nodes.map Value.string)) (hn : n ≤ 9223372036854775807) :
    Calls Tryz.prog 19 #[.agg (hCells sz root tk ep A n c sig), .agg (hCells sz root tk ep B n d sig)] w fun e w' => e = .returned (.bool true) ∧ Mod Non w w' := by
  obtain ⟨w0, hw0⟩ : ∃ w0, w0 = (w.alloc (.cells (hCells sz root tk ep A n c sig) 26)).alloc (.cells (hCells sz root tk ep B n d sig) 26) := ⟨_, rfl⟩
  have hm0 : Mod Non w w0 := by rw [hw0]; exact ((Mod.refl Non w).alloc _).alloc _
  have HS := Lib.hid (sameT_eq A B n c d nodes w0 (h1.mod0 hm0) (h2.mod0 hm0) hn)
  have HM := Lib.hid hm0
  unfold hCells at hw0 ⊢
  have HW0 := Lib.hid hw0
  clear hm0 hw0 h1 h2
  go_enter Tryz.func19, Tryz.ntmps19
  go_wp2_with (first
    | (go_at_call 40; rw [← HW0.out]; refine HS.out.mono ?_; rintro e w1 ⟨rfl, hm1⟩; have HM1 := Lib.hid (HM.out.trans0 hm1); clear hm1)
    | fail)
  go_ret
  exact ⟨rfl, HM1.out⟩

end Go.Proofs.YtgnpmmhpeianpaaGreatDoor
