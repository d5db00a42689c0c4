/- sawyerref18.rightHead. -/
import Derived.Test.YtgnpmmhpeianpaaGreatDoorB23
import Derived.Test.YtgnpmmhpeianpaaGreatDoorB31
import Derived.Test.YtgnpmmhpeianpaaGreatDoorB10
import Derived.Deep.RegionHeld3
namespace Go.Proofs.YtgnpmmhpeianpaaGreatDoor
open Go.RowKit

theorem eq32 (s : ByteArray) : isH s = ((s.size : Int) == 32) := by
  unfold isH
  by_cases h0 : s.size = 32
  · rw [h0]; rfl
  · rw [decide_eq_false h0]
    symm
    rw [beq_eq_false_iff_ne]
    omega
theorem headR_eq (sz : Int) (root : ByteArray) (tk ep : Int) (nodes : List ByteArray) (sig : ByteArray) : headR sz root tk ep nodes sig = (inN tk && (inN ep && (((root.size : Int) == 32) && (((sig.size : Int) == 32) && spanR sz nodes)))) := by
  rw [← eq32, ← eq32]
  unfold headR spanR inAll
  have e1 : [sz, tk, ep].all inN = (inN sz && (inN tk && inN ep)) := by simp
  have e2 : hashAll [root, sig] = (isH root && isH sig) := by unfold hashAll; simp
  rw [e1, e2, show decide (0 ≤ sz ∧ sz ≤ 1099511627776) = inN sz from rfl]
  cases inN sz <;> cases inN tk <;> cases inN ep <;> cases isH root <;> cases isH sig <;> cases hashAll nodes <;> cases decide (nodes.length = onesI sz) <;> rfl

set_option maxRecDepth 100000 in
set_option maxHeartbeats 4000000 in
theorem rightHead_any (sz : Int) (root : ByteArray) (tk ep : Int) (A : Option Addr) (n c : Nat) (nodes : List ByteArray) (sig : ByteArray) (w : World) (hr : Rd w A n (nodes.map Value.string)) (hn : n ≤ 9223372036854775807) :
    Calls Tryz.prog 34 #[.agg (hCells sz root tk ep A n c sig)] w fun e w' => e = .returned (.bool (headR sz root tk ep nodes sig)) ∧ Mod Non w w' := by
  obtain ⟨w0, hw0⟩ : ∃ w0, w0 = w.alloc (.cells (hCells sz root tk ep A n c sig) 26) := ⟨_, rfl⟩
  have hb0 : Blk w0 w.heap.size 26 (hCells sz root tk ep A n c sig) := by rw [hw0]; exact Blk.new _ _ _
  have hm0 : Mod Non w w0 := by rw [hw0]; exact (Mod.refl Non w).alloc _
  unfold hCells at hb0 hw0 ⊢
  have c0 : w0.cell? ⟨w.heap.size, 0, none⟩ = some (.int .i64 sz) := hb0.cell 0
  have c1 : w0.cell? ⟨w.heap.size, 1, none⟩ = some (.string root) := hb0.cell 1
  have c2 : w0.cell? ⟨w.heap.size, 2, none⟩ = some (.int .i64 tk) := hb0.cell 2
  have c3 : w0.cell? ⟨w.heap.size, 3, none⟩ = some (.int .i64 ep) := hb0.cell 3
  have c4 : w0.cell? ⟨w.heap.size, 4, none⟩ = some (.slice A n c) := hb0.cell 4
  have c5 : w0.cell? ⟨w.heap.size, 5, none⟩ = some (.string sig) := hb0.cell 5
  have HM := Lib.hid hm0
  have HTK := Lib.hid (inQ_any tk w0)
  have HEP := Lib.hid (inQ_any ep w0)
  have hck := ckSpan_any sz A n c nodes w0 (hr.mod0 hm0) hn
  have HW0 := Lib.hid hw0
  rw [headR_eq]
  clear hb0 hm0 hw0 hr
  obtain ⟨b0, e0⟩ : ∃ b, inN tk = b := ⟨_, rfl⟩
  obtain ⟨b1, e1⟩ : ∃ b, inN ep = b := ⟨_, rfl⟩
  obtain ⟨b2, e2⟩ : ∃ b, ((root.size : Int) == 32) = b := ⟨_, rfl⟩
  obtain ⟨b3, e3⟩ : ∃ b, ((sig.size : Int) == 32) = b := ⟨_, rfl⟩
  obtain ⟨b4, e4⟩ : ∃ b, spanR sz nodes = b := ⟨_, rfl⟩
  rw [e0] at HTK
  rw [e1] at HEP
  rw [e4] at hck
  obtain ⟨r, hres⟩ : ∃ r : Int, (if b4 = true then (0 : Int) else 1) = r := ⟨_, rfl⟩
  rw [hres] at hck
  have er : (r == 0) = b4 := by rw [← hres]; cases b4 <;> rfl
  have HCK := Lib.hid hck
  rw [e0, e1, e2, e3, e4]
  clear e0 e1 e4 hck hres
  cases b0 with
  | false =>
    go_enter Tryz.func34, Tryz.ntmps34
    go_wp2_with (first
      | (go_at_call 61; rw [← HW0.out]; with_reducible refine HTK.out.mono ?_; rintro e w1 ⟨rfl, rfl⟩)
      | (go_at_call 61; with_reducible refine HEP.out.mono ?_; rintro e w1 ⟨rfl, rfl⟩)
      | fail)
    go_ret
    exact ⟨rfl, HM.out⟩
  | true =>
    cases b1 with
    | false =>
      go_enter Tryz.func34, Tryz.ntmps34
      go_wp2_with (first
        | (go_at_call 61; rw [← HW0.out]; with_reducible refine HTK.out.mono ?_; rintro e w1 ⟨rfl, rfl⟩)
        | (go_at_call 61; with_reducible refine HEP.out.mono ?_; rintro e w1 ⟨rfl, rfl⟩)
        | fail)
      go_ret
      exact ⟨rfl, HM.out⟩
    | true =>
      cases b2 with
      | false =>
        go_enter Tryz.func34, Tryz.ntmps34
        go_wp2_with (first
          | (go_at_call 61; rw [← HW0.out]; with_reducible refine HTK.out.mono ?_; rintro e w1 ⟨rfl, rfl⟩)
          | (go_at_call 61; with_reducible refine HEP.out.mono ?_; rintro e w1 ⟨rfl, rfl⟩)
          | fail)
        go_ret
        exact ⟨rfl, HM.out⟩
      | true =>
        cases b3 with
        | false =>
          go_enter Tryz.func34, Tryz.ntmps34
          go_wp2_with (first
            | (go_at_call 61; rw [← HW0.out]; with_reducible refine HTK.out.mono ?_; rintro e w1 ⟨rfl, rfl⟩)
            | (go_at_call 61; with_reducible refine HEP.out.mono ?_; rintro e w1 ⟨rfl, rfl⟩)
            | fail)
          go_ret
          exact ⟨rfl, HM.out⟩
        | true =>
          go_enter Tryz.func34, Tryz.ntmps34
          go_wp2_with (first
            | (go_at_call 61; rw [← HW0.out]; with_reducible refine HTK.out.mono ?_; rintro e w1 ⟨rfl, rfl⟩)
            | (go_at_call 61; with_reducible refine HEP.out.mono ?_; rintro e w1 ⟨rfl, rfl⟩)
            | (go_at_call 62; refine HCK.out.mono ?_; rintro e w2 ⟨rfl, hm2⟩; have HM2 := Lib.hid (HM.out.trans0 hm2); clear hm2)
            | fail)
          go_ret
          exact ⟨by cases b4 <;> rfl, HM2.out⟩

end Go.Proofs.YtgnpmmhpeianpaaGreatDoor

/- sawyerref18.EncodeHead. -/
namespace Go.Proofs.YtgnpmmhpeianpaaGreatDoor
open Go.RowKit

/-- 'append(v, s...)', s a text, as one operation. -/
theorem wp_appS {P : Program} (w : World) {t u e : TypeId} (T : ByteT P t e) (hu : P.underlying u = some .string) {o : Oper} {a : Act} {K : Act → World → Prop} {Q : Exit → Act → World → Prop} (s x : Operand)
    (ho : o.op = .call { callee := .builtin .append, args := #[s, x], argTypes := #[t, u] })
    (base : Nat) (v : Value) (n : Nat) (xs : List UInt8) (hs : a.eval s = v) (hown : w.ownsRow base e 1 v n (by8 xs)) (b : ByteArray) (hx : a.eval x = .string b)
    (k : Nat) (hk : n + b.size = k) (ys : List UInt8) (hy : xs ++ b.data.toList = ys) (h63 : k ≤ 140737488355328) (hbase : base ≤ w.heap.size)
    (h : ∀ A' c' w', k ≤ c' → c' ≤ 9223372036854775807 → w'.ownsRow base e 1 (.slice A' k c') k (by8 ys) → w.grownBy w' v.ownBlock → (blkOf A' = v.ownBlock ∨ blkOf A' = some w.heap.size) → K (a.put o.dst (.slice A' k c')) w') : o.wp P a w K Q := by
  obtain ⟨i, hi, hz, hs1, hb⟩ := T.info
  subst hk
  subst hy
  obtain ⟨v', w', hrun, h2, h3, h4⟩ := run_appS (P := P) w base t u o.type e i T.sl hu hi hz hs1 hb v n (by8 xs) hown b (by simp only [maxLen]; omega) h63 hbase
  obtain ⟨A', c', rfl, hc, hc'⟩ := own_slice h2
  rw [strCells_by8, ← by8_append] at h2
  unfold Oper.wp execOp
  simp only [ho, resolve, invoke, builtin, Sem.run_bind, Sem.run_pure, Result.andThen_ok, List.map_toArray, List.map_cons, List.map_nil, hs, hx, hrun]
  exact h A' c' w' hc (by simp only [maxLen] at hc'; omega) h2 h3 (by cases A' <;> exact h4)

set_option maxRecDepth 100000 in
set_option maxHeartbeats 4000000 in
theorem encHeadQ_any (sz : Int) (root : ByteArray) (tk ep : Int) (A : Option Addr) (n c : Nat) (nodes : List ByteArray) (sig : ByteArray) (w : World) (hr : Rd w A n (nodes.map Value.string)) (hn : n ≤ 9223372036854775807) :
    Calls Tryz.prog 13 #[.agg (hCells sz root tk ep A n c sig)] w (EhPost sz root tk ep nodes sig w) := by
  have hnl : nodes.length = n := by simpa using hr.1
  obtain ⟨w0, hw0⟩ : ∃ w0, w0 = w.alloc (.cells (hCells sz root tk ep A n c sig) 26) := ⟨_, rfl⟩
  have hb0 : Blk w0 w.heap.size 26 (hCells sz root tk ep A n c sig) := by rw [hw0]; exact Blk.new _ _ _
  have hm0 : Mod Non w w0 := by rw [hw0]; exact (Mod.refl Non w).alloc _
  have HTR := Lib.hid (rightHead_any sz root tk ep A n c nodes sig w0 (hr.mod0 hm0) hn)
  unfold hCells at hb0 hw0 HTR ⊢
  have c0 : w0.cell? ⟨w.heap.size, 0, none⟩ = some (.int .i64 sz) := hb0.cell 0
  have c1 : w0.cell? ⟨w.heap.size, 1, none⟩ = some (.string root) := hb0.cell 1
  have c2 : w0.cell? ⟨w.heap.size, 2, none⟩ = some (.int .i64 tk) := hb0.cell 2
  have c3 : w0.cell? ⟨w.heap.size, 3, none⟩ = some (.int .i64 ep) := hb0.cell 3
  have c4 : w0.cell? ⟨w.heap.size, 4, none⟩ = some (.slice A n c) := hb0.cell 4
  have c5 : w0.cell? ⟨w.heap.size, 5, none⟩ = some (.string sig) := hb0.cell 5
  have HM := Lib.hid hm0
  have HB := Lib.hid hb0
  have HW0 := Lib.hid hw0
  have HR := Lib.hid (hr.mod0 hm0)
  have HNL := Lib.hid hnl
  clear hb0 hm0 hw0 hr hnl
  unfold EhPost
  obtain ⟨b, hb⟩ : ∃ b, headR sz root tk ep nodes sig = b := ⟨_, rfl⟩
  rw [hb] at HTR ⊢
  cases b with
  | false =>
    clear hb
    simp only [Bool.false_eq_true, if_false]
    go_enter Tryz.func13, Tryz.ntmps13
    go_wp2_with fail
    rw [← HW0.out]
    refine HTR.out.mono ?_
    rintro r w1 ⟨rfl, hm1⟩
    have HM1 := Lib.hid (HM.out.trans0 hm1)
    clear hm1
    go_wp2_with fail
    go_ret2
    exact ⟨rfl, HM1.out⟩
  | true =>
    obtain ⟨hl1, hl2⟩ := headR_len hb
    rw [HNL.out] at hl2
    obtain ⟨R, hR⟩ : ∃ R, encH sz root tk ep nodes sig = R := ⟨_, rfl⟩
    rw [hR]
    unfold encH at hR
    have h27 := nBs_len [sz, tk, ep]
    obtain ⟨P, hP⟩ : ∃ P, nBs [sz, tk, ep] = P := ⟨_, rfl⟩
    rw [hP] at hR h27
    obtain ⟨xs, hxs⟩ : ∃ xs, root :: sig :: nodes = xs := ⟨_, rfl⟩
    rw [hxs] at hR hl1
    have hxl : xs.length = 2 + n := by rw [← hxs]; simp [HNL.out]; omega
    have hxm : [Value.string root, Value.string sig] ++ nodes.map Value.string = xs.map Value.string := by rw [← hxs]; rfl
    have HRR := Lib.hid hR
    have HXS := Lib.hid hxs
    have HP := Lib.hid hP
    have HXL := Lib.hid hxl
    have HXM := Lib.hid hxm
    have HL1 := Lib.hid hl1
    simp only [List.length_cons, List.length_nil] at h27
    clear hb hR hP hxs hxl hxm hl1
    simp only [if_true]
    go_enter Tryz.func13, Tryz.ntmps13
    go_wp2_with fail
    rw [← HW0.out]
    refine HTR.out.mono ?_
    rintro r w1 ⟨rfl, hm1⟩
    have HM1 := Lib.hid (HM.out.trans0 hm1)
    have HB1 := Lib.hid (HB.out.mod hm1 fun h => h)
    have HR1 := Lib.hid (HR.out.mod0 hm1)
    clear hm1 c0 c1 c2 c3 c4 c5
    have HKE : Hid (∀ W, Mod Non w1 W → W.cell? ⟨w.heap.size, 0, none⟩ = some (.int .i64 sz) ∧ W.cell? ⟨w.heap.size, 1, none⟩ = some (.string root) ∧ W.cell? ⟨w.heap.size, 2, none⟩ = some (.int .i64 tk) ∧ W.cell? ⟨w.heap.size, 3, none⟩ = some (.int .i64 ep) ∧ W.cell? ⟨w.heap.size, 4, none⟩ = some (.slice A n c) ∧ W.cell? ⟨w.heap.size, 5, none⟩ = some (.string sig)) :=
      fun W hW => ⟨(HB1.out.mod hW fun h => h).cell 0, (HB1.out.mod hW fun h => h).cell 1, (HB1.out.mod hW fun h => h).cell 2, (HB1.out.mod hW fun h => h).cell 3, (HB1.out.mod hW fun h => h).cell 4, (HB1.out.mod hW fun h => h).cell 5⟩
    have HRS : Hid (root.size = 32) := HL1.out root (by rw [← HXS.out]; simp)
    have HSG : Hid (sig.size = 32) := HL1.out sig (by rw [← HXS.out]; simp)
    have hke0 := HKE.out _ ((Mod.refl Non w1).drew)
    have HMA := Lib.hid (((Mod.refl Non w1).drew).alloc (.cells #[.int .i64 sz, .int .i64 tk, .int .i64 ep] 3))
    have hke1 := HKE.out _ HMA.out
    have HRD := Lib.hid (rd_new w1.drew 3 [.int .i64 sz, .int .i64 tk, .int .i64 ep])
    go_wp2_with fail
    refine wp_region_held_drew (S := fun w' => w'.cell? ⟨w.heap.size, 0, none⟩ = some (.int .i64 sz) ∧ w'.cell? ⟨w.heap.size, 1, none⟩ = some (.string root) ∧ w'.cell? ⟨w.heap.size, 2, none⟩ = some (.int .i64 tk) ∧ w'.cell? ⟨w.heap.size, 3, none⟩ = some (.int .i64 ep) ∧ w'.cell? ⟨w.heap.size, 4, none⟩ = some (.slice A n c) ∧ w'.cell? ⟨w.heap.size, 5, none⟩ = some (.string sig)) (by kernel_rfl) (hke0) (fun hHeld => ?_)
    refine wpAnyH_take (i := 0) (oi := { dst := some 9, op := Op.fieldAddr 26 (Operand.tmp 1) 0, type := 0, pos := "ref.go:107", after := #[], guard := none }) (v := ?_) rfl (by kernel_rfl) (by kernel_rfl) (by kernel_rfl) (fun _ _ _ h => h) (Or.inl ⟨by rfl, ?_⟩) hHeld ?_
    rotate_left
    · (intro w0 hS0; (try dsimp only at hS0); go_simp; try with_reducible rfl)
    try simp only [Act.put, List.setIfInBounds_toArray, List.set_cons_zero, List.set_cons_succ]
    refine wpAnyH_take (i := 1) (oi := { dst := some 10, op := Op.load 3 (Operand.tmp 9), type := 3, pos := "ref.go:107", after := #[{ on := 0, ground := Ground.data }], guard := none }) (v := ?_) rfl (by kernel_rfl) (by kernel_rfl) (by kernel_rfl) (fun _ _ _ h => h) (Or.inl ⟨by rfl, ?_⟩) hHeld ?_
    rotate_left
    · (intro w0 hS0; (try dsimp only at hS0); go_simp; try with_reducible rfl)
    try simp only [Act.put, List.setIfInBounds_toArray, List.set_cons_zero, List.set_cons_succ]
    refine wpAnyH_take (i := 2) (oi := { dst := some 11, op := Op.fieldAddr 26 (Operand.tmp 1) 2, type := 0, pos := "ref.go:107", after := #[], guard := none }) (v := ?_) rfl (by kernel_rfl) (by kernel_rfl) (by kernel_rfl) (fun _ _ _ h => h) (Or.inl ⟨by rfl, ?_⟩) hHeld ?_
    rotate_left
    · (intro w0 hS0; (try dsimp only at hS0); go_simp; try with_reducible rfl)
    try simp only [Act.put, List.setIfInBounds_toArray, List.set_cons_zero, List.set_cons_succ]
    refine wpAnyH_take (i := 3) (oi := { dst := some 12, op := Op.load 3 (Operand.tmp 11), type := 3, pos := "ref.go:107", after := #[{ on := 2, ground := Ground.data }], guard := none }) (v := ?_) rfl (by kernel_rfl) (by kernel_rfl) (by kernel_rfl) (fun _ _ _ h => h) (Or.inl ⟨by rfl, ?_⟩) hHeld ?_
    rotate_left
    · (intro w0 hS0; (try dsimp only at hS0); go_simp; try with_reducible rfl)
    try simp only [Act.put, List.setIfInBounds_toArray, List.set_cons_zero, List.set_cons_succ]
    refine wpAnyH_take (i := 4) (oi := { dst := some 13, op := Op.fieldAddr 26 (Operand.tmp 1) 3, type := 0, pos := "ref.go:107", after := #[], guard := none }) (v := ?_) rfl (by kernel_rfl) (by kernel_rfl) (by kernel_rfl) (fun _ _ _ h => h) (Or.inl ⟨by rfl, ?_⟩) hHeld ?_
    rotate_left
    · (intro w0 hS0; (try dsimp only at hS0); go_simp; try with_reducible rfl)
    try simp only [Act.put, List.setIfInBounds_toArray, List.set_cons_zero, List.set_cons_succ]
    refine wpAnyH_take (i := 5) (oi := { dst := some 14, op := Op.load 3 (Operand.tmp 13), type := 3, pos := "ref.go:107", after := #[{ on := 4, ground := Ground.data }], guard := none }) (v := ?_) rfl (by kernel_rfl) (by kernel_rfl) (by kernel_rfl) (fun _ _ _ h => h) (Or.inl ⟨by rfl, ?_⟩) hHeld ?_
    rotate_left
    · (intro w0 hS0; (try dsimp only at hS0); go_simp; try with_reducible rfl)
    try simp only [Act.put, List.setIfInBounds_toArray, List.set_cons_zero, List.set_cons_succ]
    refine wpAnyH_take (i := 8) (oi := { dst := some 17, op := Op.fieldAddr 26 (Operand.tmp 1) 1, type := 0, pos := "ref.go:107", after := #[], guard := none }) (v := ?_) rfl (by kernel_rfl) (by kernel_rfl) (by kernel_rfl) (fun _ _ _ h => h) (Or.inl ⟨by rfl, ?_⟩) hHeld ?_
    rotate_left
    · (intro w0 hS0; (try dsimp only at hS0); go_simp; try with_reducible rfl)
    try simp only [Act.put, List.setIfInBounds_toArray, List.set_cons_zero, List.set_cons_succ]
    refine wpAnyH_take (i := 9) (oi := { dst := some 18, op := Op.load 9 (Operand.tmp 17), type := 9, pos := "ref.go:107", after := #[{ on := 8, ground := Ground.data }], guard := none }) (v := ?_) rfl (by kernel_rfl) (by kernel_rfl) (by kernel_rfl) (fun _ _ _ h => h) (Or.inl ⟨by rfl, ?_⟩) hHeld ?_
    rotate_left
    · (intro w0 hS0; (try dsimp only at hS0); go_simp; try with_reducible rfl)
    try simp only [Act.put, List.setIfInBounds_toArray, List.set_cons_zero, List.set_cons_succ]
    refine wpAnyH_take (i := 11) (oi := { dst := some 20, op := Op.fieldAddr 26 (Operand.tmp 1) 5, type := 0, pos := "ref.go:107", after := #[], guard := none }) (v := ?_) rfl (by kernel_rfl) (by kernel_rfl) (by kernel_rfl) (fun _ _ _ h => h) (Or.inl ⟨by rfl, ?_⟩) hHeld ?_
    rotate_left
    · (intro w0 hS0; (try dsimp only at hS0); go_simp; try with_reducible rfl)
    try simp only [Act.put, List.setIfInBounds_toArray, List.set_cons_zero, List.set_cons_succ]
    refine wpAnyH_take (i := 12) (oi := { dst := some 21, op := Op.load 9 (Operand.tmp 20), type := 9, pos := "ref.go:107", after := #[{ on := 11, ground := Ground.data }], guard := none }) (v := ?_) rfl (by kernel_rfl) (by kernel_rfl) (by kernel_rfl) (fun _ _ _ h => h) (Or.inl ⟨by rfl, ?_⟩) hHeld ?_
    rotate_left
    · (intro w0 hS0; (try dsimp only at hS0); go_simp; try with_reducible rfl)
    try simp only [Act.put, List.setIfInBounds_toArray, List.set_cons_zero, List.set_cons_succ]
    refine wpAnyH_ready (rs := [6]) (by kernel_rfl) (by simp) (AllReadyH.cons (o := { dst := some 15, op := Op.buildSlice 71 3 #[(0, Operand.tmp 10), (1, Operand.tmp 12), (2, Operand.tmp 14)], type := 71, pos := "ref.go:107", after := #[{ on := 1, ground := Ground.data }, { on := 3, ground := Ground.data }, { on := 5, ground := Ground.data }], guard := none }) rfl (fun K hK => ?_) AllReadyH.nil)
    go_simp
    refine hK.out _ _ (hke1) (fun hHeld2 => ?_)
    clear hK K hHeld
    rename _ => hHeld
    try simp only [Act.put, List.setIfInBounds_toArray, List.set_cons_zero, List.set_cons_succ]
    refine wpAnyH_ready (rs := [7]) (by kernel_rfl) (by simp) (AllReadyH.cons (o := { dst := some 16, op := Op.call { callee := Callee.value (Operand.func 30), args := #[Operand.tmp 15], argTypes := #[71] }, type := 27, pos := "ref.go:107", after := #[{ on := 6, ground := Ground.data }], guard := none }) rfl (fun K hK => ?_) AllReadyH.nil)
    go_simp
    refine (numsQ_any _ 3 _ [sz, tk, ep] _ HRD.out (by omega)).mono ?_
    rintro e w2 ⟨A2, n2, c2, rfl, hn2, ho2, hb2⟩
    rw [HP.out] at hn2 ho2
    have HM2 := Lib.hid (HMA.out.trans0 (Mod.of_below hb2))
    have hke2 := HKE.out w2 HM2.out
    have HO2 : Hid (w2.ownsRow w1.heap.size 5 1 (.slice A2 n2 c2) n2 (by8 P)) := own_mono ho2 (by simp)
    have HN2 := Lib.hid hn2
    have hn2b : n2 ≤ 27 := by omega
    have hz2 := HM2.out.size
    clear hn2 ho2 hb2
    refine hK.out _ _ (hke2) (fun hHeld2 => ?_)
    clear hK K hHeld
    rename _ => hHeld
    try simp only [Act.put, List.setIfInBounds_toArray, List.set_cons_zero, List.set_cons_succ]
    refine wpAnyH_ready (rs := [10]) (by kernel_rfl) (by simp) (AllReadyH.cons (o := { dst := some 19, op := Op.call { callee := Callee.builtin Builtin.append, args := #[Operand.tmp 16, Operand.tmp 18], argTypes := #[27, 9] }, type := 27, pos := "ref.go:107", after := #[{ on := 7, ground := Ground.data }, { on := 9, ground := Ground.data }, { on := 7, ground := Ground.chain }], guard := none }) rfl (fun K hK => ?_) AllReadyH.nil)
    refine wp_appS _ bt Tryz.underlying9 (.tmp 16) (.tmp 18) rfl w1.heap.size (.slice A2 n2 c2) n2 P rfl HO2.out root rfl (n2 + 32) (by rw [HRS.out]) (P ++ root.data.toList) rfl (by omega) hz2 ?_
    intro A3 c3 w3 hc3 hcm3 ho3 hg3 ha3
    have HM3 : Hid (Mod Non w1 w3) := HM2.out.grown hg3 fun k hk => .inr (HO2.out.lt k hk).1
    have hke3 := HKE.out w3 HM3.out
    have HO3 := Lib.hid ho3
    have hz3 := HM3.out.size
    clear ho3 hg3 ha3
    refine hK.out _ _ (hke3) (fun hHeld2 => ?_)
    clear hK K hHeld
    rename _ => hHeld
    try simp only [Act.put, List.setIfInBounds_toArray, List.set_cons_zero, List.set_cons_succ]
    refine wpAnyH_ready (rs := [13]) (by kernel_rfl) (by simp) (AllReadyH.cons (o := { dst := some 22, op := Op.call { callee := Callee.builtin Builtin.append, args := #[Operand.tmp 19, Operand.tmp 21], argTypes := #[27, 9] }, type := 27, pos := "ref.go:107", after := #[{ on := 10, ground := Ground.data }, { on := 12, ground := Ground.data }, { on := 10, ground := Ground.chain }], guard := none }) rfl (fun K hK => ?_) AllReadyH.nil)
    refine wp_appS _ bt Tryz.underlying9 (.tmp 19) (.tmp 21) rfl w1.heap.size (.slice A3 (n2 + 32) c3) (n2 + 32) (P ++ root.data.toList) rfl HO3.out sig rfl (n2 + 64) (by rw [HSG.out]) (P ++ catS [root, sig]) (by simp [catS]) (by omega) hz3 ?_
    intro A4 c4 w4 hc4 hcm4 ho4 hg4 ha4
    have HM4 : Hid (Mod Non w1 w4) := HM3.out.grown hg4 fun k hk => .inr (HO3.out.lt k hk).1
    have hke4 := HKE.out w4 HM4.out
    have HO4 := Lib.hid ho4
    have hz4 := HM4.out.size
    clear ho4 hg4 ha4
    refine hK.out _ _ (hke4) (fun hHeld2 => ?_)
    clear hK K hHeld
    rename _ => hHeld
    try simp only [Act.put, List.setIfInBounds_toArray, List.set_cons_zero, List.set_cons_succ]
    refine wpAnyH_take (i := 14) (oi := { dst := some 4, op := Op.assign (Operand.tmp 22), type := 27, pos := "ref.go:107", after := #[{ on := 13, ground := Ground.data }, { on := 13, ground := Ground.chain }, { on := 0, ground := Ground.phase }, { on := 1, ground := Ground.phase }, { on := 2, ground := Ground.phase }, { on := 3, ground := Ground.phase }, { on := 4, ground := Ground.phase }, { on := 5, ground := Ground.phase }, { on := 6, ground := Ground.phase }, { on := 7, ground := Ground.phase }, { on := 8, ground := Ground.phase }, { on := 9, ground := Ground.phase }, { on := 10, ground := Ground.phase }, { on := 11, ground := Ground.phase }, { on := 12, ground := Ground.phase }, { on := 13, ground := Ground.phase }], guard := none }) (v := ?_) rfl (by kernel_rfl) (by kernel_rfl) (by kernel_rfl) (fun _ _ _ h => h) (Or.inl ⟨by rfl, ?_⟩) hHeld ?_
    rotate_left
    · (intro w0 hS0; (try dsimp only at hS0); go_simp; try with_reducible rfl)
    try simp only [Act.put, List.setIfInBounds_toArray, List.set_cons_zero, List.set_cons_succ]
    refine wpAnyH_done (by kernel_rfl) ?_ _
    obtain ⟨_, _, _, _, m4, _⟩ := hke4
    have H4 : Hid (4 = 4) := rfl
    clear hke0 hke1 hke2 hke3 hHeld
    have HB1' := HB1
    go_wp2_with fail
    go_loopw [4, 5] (fun v i wr => ∃ (k q cq : Nat) (Aq : Option Addr) (dd : List UInt8), k ≤ n ∧ i = .int .i64 k ∧ v = .slice Aq q cq ∧ q ≤ cq ∧ cq ≤ 9223372036854775807 ∧ q ≤ 100 + 32 * k ∧ Hid (dd = P ++ catS (root :: sig :: nodes.take k)) ∧ Hid (wr.ownsRow w1.heap.size 5 1 (.slice Aq q cq) q (by8 dd)) ∧ Hid (Mod Non w1 wr)) (fun _ i _ => n - (intOf i).toNat)
    case atStart => exact ⟨0, n2 + 64, c4, A4, _, Nat.zero_le _, rfl, rfl, hc4, hcm4, by omega, by show _ = _; simp [catS], HO4.out, HM4.out⟩
    case round =>
      clear m4
      obtain ⟨k, q, cq, Aq, dd, hk, rfl, rfl, hq1, hq2, hq3, HD, HOq, HMr⟩ := hrel
      rename World => wr
      obtain ⟨_, _, _, _, m4, _⟩ := HKE.out wr HMr.out
      by_cases hlt : k < n
      · obtain ⟨b, o, rfl, u, hu, hc⟩ := (HR1.out.mod0 HMr.out).at_ hlt
        rw [List.getElem?_map] at hu
        obtain ⟨x, hx, rfl⟩ := Option.map_eq_some_iff.1 hu
        have hxs : x.size = 32 := HL1.out x (by rw [← HXS.out]; exact .tail _ (.tail _ (List.mem_of_getElem? hx)))
        have HX : Hid ((dd ++ x.data.toList) = P ++ catS (root :: sig :: nodes.take (k + 1))) := by
          show _ = _
          rw [take_snoc' nodes k x hx, HD.out, List.append_assoc]
          congr 1
          simp only [catS, catS_append, List.append_nil, List.append_assoc]
        have i1 : (0 : Int) ≤ (k : Int) := by omega
        have i2 : (k : Int) < (n : Int) := by omega
        have hzw := HMr.out.size
        clear hu hx
        go_wp2_with (at_builtin; refine wpList_appS _ bt Tryz.underlying9 rfl (.tmp 30) (.tmp 35) rfl w1.heap.size (.slice Aq q cq) q dd rfl HOq.out x rfl (q + 32) (by omega) _ rfl (by omega) hzw ?_; intro A' c' w' hc' hc'' ho' hg' ha')
        have HM' : Hid (Mod Non w1 w') := HMr.out.grown hg' fun j hj => .inr (HOq.out.lt j hj).1
        have HO' := Lib.hid ho'
        clear ho' hg' ha' hc m4
        go_wp2_with fail
        go_roundw
        case rel => exact ⟨k + 1, q + 32, c', A', _, by omega, by go_num, rfl, hc', hc'', by omega, HX.out, HO'.out, HM'.out⟩
        case measure => simp [intOf]; omega
      · have hkn : k = n := by omega
        have hd : decide ((k : Int) < (n : Int)) = false := decide_eq_false (by omega)
        have hfin : dd = R := by rw [HD.out, hkn, List.take_of_length_le (by rw [HNL.out]; omega), HXS.out, HRR.out]
        have HF := Lib.hid hfin
        have hdl : dd.length = q := by simpa using (Rd.of_own HOq.out).1
        have HDL := Lib.hid hdl
        clear hfin hdl hkn
        go_wp2_with fail
        go_ret2
        exact ⟨Aq, q, cq, rfl, by rw [← HF.out, HDL.out], by rw [← HF.out]; exact Rd.of_own HOq.out, hq1, hq2, HM1.out.trans0 HMr.out⟩

end Go.Proofs.YtgnpmmhpeianpaaGreatDoor
