/- The walk of WalPlays. -/
import Derived.Test.YtgdamcimpgapgaaGreatDoorM36
import Derived.Test.YtgdamcimpgapgaaGreatDoorM39
import Derived.Test.YtgdamcimpgapgaaGreatDoorM40
import Derived.Test.YtgdamcimpgapgaaGreatDoorM25
import Derived.Test.YtgdamcimpgapgaaGreatDoorM34
import Derived.Test.YtgdamcimpgapgaaGreatDoorM33
import Derived.Test.YtgdamcimpgapgaaGreatDoorM28
import Derived.Test.YtgdamcimpgapgaaGreatDoorM09
import Derived.Deep.RegionHeld
namespace Go.Proofs.YtgdamcimpgapgaaGreatDoor
open Go.RowKit

/-- an operation of the script, as it lies. -/
structure Ow where
  what : Int
  n : Int
  at_ : Int
  B : Option Addr
  m : Nat
  c : Nat
  b : List UInt8
  Q : Option Addr
  q : Nat
  cq : Nat
  picks : List Int
def Ow.cells (x : Ow) : List Value := [.int .i64 x.what, .int .i64 x.n, .int .i64 x.at_, .slice x.B x.m x.c, .slice x.Q x.q x.cq]
structure OwOk (w : World) (B0 : Nat) (x : Ow) : Prop where
  arg : OpArg w B0 x.B x.m x.b x.Q x.q x.picks
  m1 : x.m ≤ 140737488351232
  q1 : x.q ≤ 9223372036854775807
  at1 : x.at_ ≤ 9223372036854775807
theorem flat_get {α : Type} (k : Nat) (cellsX : α → List Value) (hk : ∀ x, (cellsX x).length = k) : ∀ {xs : List α} {i : Nat} {x : α}, xs[i]? = some x → ∀ j, j < k → (xs.flatMap cellsX)[i * k + j]? = (cellsX x)[j]?
  | [], _, _, h, _, _ => by cases h
  | y :: r, 0, x, h, j, hj => by
    simp only [List.getElem?_cons_zero, Option.some.injEq] at h
    subst h
    rw [List.flatMap_cons, Nat.zero_mul, Nat.zero_add, List.getElem?_append_left (by rw [hk]; exact hj)]
  | y :: r, i + 1, x, h, j, hj => by
    rw [List.getElem?_cons_succ] at h
    rw [List.flatMap_cons, List.getElem?_append_right (by rw [hk, Nat.add_mul]; omega), hk, show (i + 1) * k + j - k = i * k + j by rw [Nat.add_mul]; omega]
    exact flat_get k cellsX hk h j hj
theorem flatMap_len {α : Type} (k : Nat) (cellsX : α → List Value) (hk : ∀ x, (cellsX x).length = k) : ∀ xs : List α, (xs.flatMap cellsX).length = xs.length * k
  | [] => by simp
  | y :: r => by rw [List.flatMap_cons, List.length_append, hk, flatMap_len k cellsX hk r, List.length_cons, Nat.add_mul]; omega
theorem Rd.ow {w : World} {A : Option Addr} {n : Nat} {xs : List Ow} (h : Rd w A (n * 5) (xs.flatMap Ow.cells)) {i : Nat} (hi : i < n) :
    ∃ b o x, A = some ⟨b, o, none⟩ ∧ xs[i]? = some x ∧ w.cell? ⟨b, o + i * 5, none⟩ = some (.int .i64 x.what) ∧ w.cell? ⟨b, o + i * 5 + 1, none⟩ = some (.int .i64 x.n) ∧ w.cell? ⟨b, o + i * 5 + 2, none⟩ = some (.int .i64 x.at_) ∧
      w.cell? ⟨b, o + i * 5 + 3, none⟩ = some (.slice x.B x.m x.c) ∧ w.cell? ⟨b, o + i * 5 + 4, none⟩ = some (.slice x.Q x.q x.cq) := by
  have hk : ∀ x, (Ow.cells x).length = 5 := fun _ => rfl
  have hl : xs.length = n := by have := h.1; rw [flatMap_len 5 _ hk] at this; omega
  obtain ⟨b, o, rfl, hc⟩ := h.2 (by omega)
  have hx : xs[i]? = some xs[i] := List.getElem?_eq_getElem (by omega)
  refine ⟨b, o, xs[i], rfl, hx, ?_, ?_, ?_, ?_, ?_⟩
  · exact hc (i * 5) _ (by rw [show i * 5 = i * 5 + 0 from rfl, flat_get 5 _ hk hx 0 (by omega)]; rfl)
  · rw [Nat.add_assoc]; exact hc (i * 5 + 1) _ (by rw [flat_get 5 _ hk hx 1 (by omega)]; rfl)
  · rw [Nat.add_assoc]; exact hc (i * 5 + 2) _ (by rw [flat_get 5 _ hk hx 2 (by omega)]; rfl)
  · rw [Nat.add_assoc]; exact hc (i * 5 + 3) _ (by rw [flat_get 5 _ hk hx 3 (by omega)]; rfl)
  · rw [Nat.add_assoc]; exact hc (i * 5 + 4) _ (by rw [flat_get 5 _ hk hx 4 (by omega)]; rfl)
theorem flatW_is : ∀ l : List Fw, flatW l = l.flatMap Fw.cells
  | [] => rfl
  | x :: r => by rw [flatW, List.flatMap_cons, flatW_is r]
theorem and20 (n : Int) : bits .and .i64 n 1048575 = n % 1048576 := and_mask n 20 (by omega)

theorem RkIs.done {w : World} {E : Nat → Prop} {r : Nat} {D : Dk} (h : RkIs w E r D) : w.cell? ⟨r, 2, none⟩ = some (.int .i64 D.done) := by
  obtain ⟨B, A, n, c, xs, h1, _⟩ := h
  exact h1.blk.cell 2
theorem bytes_le {D : Dk} (ok : DkOk D) (f : Fl) (hf : f ∈ D.files) : f.bytes.length ≤ 1099511627776 := by
  have h1 : ∀ (l : List Fl), f ∈ l → costF f ≤ usedF l := by
    intro l
    induction l with
    | nil => intro h; cases h
    | cons g r ih =>
      intro h
      have hp := usedF_pos r
      rcases List.mem_cons.1 h with rfl | h
      · simp only [usedF]; omega
      · have := ih h
        have hg : 0 ≤ costF g := by unfold costF; omega
        simp only [usedF]; omega
  have h2 := h1 _ hf
  have h3 := ok.us
  have h4 := ok.u1
  have h5 := ok.n1
  unfold costF at h2
  omega

/-- S may be made stronger on the way. -/
theorem heldMono {P : Program} {md : Region.Mode} {ops : Array Oper} {Q : Exit → Act → World → Prop} {S S' : World → Prop} (h : ∀ w, S' w → S w) : ∀ (fuel : Nat) (listed : Array Bool) (a : Act) (w : World), wpAnyH P md ops Q S' fuel listed a w → wpAnyH P md ops Q S fuel listed a w
  | 0, _, _, _, hh => hh
  | fuel + 1, _, _, _, hh => ⟨hh.1, fun i hi => wpOp_mono (fun a' w' h' => ⟨h _ h'.1, heldMono h fuel _ a' w' h'.2⟩) (hh.2 i hi)⟩

/-- between two rounds over the files. -/
structure PlF (fs : List Fw) (k : Nat) (z : Int) : Prop where
  z0 : 0 ≤ z
  z1 : z ≤ 40001
  kz : (k : Int) ≤ z
  cost : costW (fs.take k) ≤ 116 * z

/-- between two rounds over the script. -/
structure PlM (W : World) (d r : Nat) (wr : World) : Prop where
  both : ∃ F E D, Both wr W.heap.size F d E r D
  mod : Mod Non W wr

set_option maxRecDepth 100000 in
set_option maxHeartbeats 8000000 in
theorem plays_walk (cap : Int) (A : Option Addr) (n c : Nat) (fs : List Fw) (S : Option Addr) (ns cs : Nat) (ops : List Ow) (w : World) (hL : Lay w) (hE : Errs w) (hx : Rd w A (n * 3) (flatW fs))
    (hb : ∀ x ∈ fs, Rd w x.A x.bytes.length (by8 x.bytes)) (hz : ∀ x ∈ fs, x.name.size ≤ 140737488351232 ∧ x.bytes.length ≤ 140737488351232) (hn : n ≤ 9223372036854775807)
    (hs : Rd w S (ns * 5) (ops.flatMap Ow.cells)) (ho : ∀ x ∈ ops, OwOk w w.heap.size x) (hns : ns ≤ 9223372036854775807) :
    Calls Tryz.prog 5 #[.int .i64 cap, .slice A n c, .slice S ns cs] w fun e w' => e = .returned (.bool true) ∧ Mod Non w w' := by
  have hlen : fs.length = n := by have := hx.1; rw [flatW_len] at this; omega
  obtain ⟨x, hxx⟩ : ∃ x, cap % 1048576 = x := ⟨_, rfl⟩
  have hx0 : 0 ≤ x := by omega
  have hx1 : x < 1048576 := by omega
  have hax : bits .and .i64 cap 1048575 = x := by rw [and20, hxx]
  have HLEN := Lib.hid hlen
  have HX := Lib.hid hx
  have HB := Lib.hid hb
  have HZ := Lib.hid hz
  have HL := Lib.hid hL
  have HER := Lib.hid hE
  have HS := Lib.hid hs
  have HO := Lib.hid ho
  have HAX := Lib.hid hax
  clear hlen hx hb hz hL hE hs ho hax hxx
  go_enter Tryz.func5, Tryz.ntmps5
  go_wp2_with (go_at_call 6; refine (awake_any _ HL.out).mono ?_; rintro e w1 ⟨rfl, hm1⟩)
  have HM1 := Lib.hid hm1
  clear hm1
  go_loop [8, 9] (fun z i => ∃ (k : Nat) (q : Int), k ≤ n ∧ i = .int .i64 k ∧ z = .int .i64 q ∧ Hid (PlF fs k q)) (fun _ i => n - (intOf i).toNat)
  case atStart => exact ⟨0, 0, Nat.zero_le _, rfl, rfl, by omega, by omega, by omega, by simp [costW]⟩
  case round =>
    obtain ⟨k, q, hk, rfl, rfl, HP⟩ := hrel
    have hq0 := HP.out.z0
    have hq1 := HP.out.z1
    have hqk := HP.out.kz
    by_cases hlt : k < n
    · obtain ⟨b, o, y, rfl, hy, g0, g1, g2⟩ := (HX.out.mod0 HM1.out).fileW hlt
      have hyz := HZ.out y (List.mem_of_getElem? hy)
      obtain ⟨_, hyl⟩ := hyz
      have HSN : Hid (costW (fs.take (k + 1)) = costW (fs.take k) + (116 + (y.bytes.length : Int))) := by
        show _ = _
        rw [take_snoc' fs k y hy, costW_append]
        simp [costW]
      obtain ⟨m, hm⟩ : ∃ m, y.bytes.length = m := ⟨_, rfl⟩
      rw [hm] at g2 hyl HSN
      have i1 : (0 : Int) ≤ (k : Int) := by omega
      have i2 : (k : Int) < (n : Int) := by omega
      clear hy hm g0 g1
      by_cases hbig : 20000 < m
      · go_wp2_with fail
        go_ret
        exact ⟨rfl, HM1.out⟩
      · by_cases hqb : 20000 < q
        · go_wp2_with fail
          go_ret
          exact ⟨rfl, HM1.out⟩
        · go_wp2_with fail
          go_round
          case rel =>
            refine ⟨k + 1, q + m + 1, by omega, by go_num, rfl, by omega, by omega, by push_cast; omega, ?_⟩
            rw [HSN.out]
            have := HP.out.cost
            omega
          case measure => simp [intOf]; omega
    · obtain rfl : k = n := by omega
      have hcost : costW fs ≤ 4640116 := by
        have := HP.out.cost
        rw [List.take_of_length_le (by rw [HLEN.out]; omega)] at this
        omega
      have HC := Lib.hid hcost
      clear HP hcost
      have hax := HAX.out
      go_wp2_with fail
      clear hax
      obtain ⟨R, hR⟩ : ∃ R, loadP x fs = R := ⟨_, rfl⟩
      have hbo := both_any x A k c fs w1 (HL.out.mod0 HM1.out) hx0 (by omega) (HX.out.mod0 HM1.out) (fun y hy => (HB.out y hy).mod0 HM1.out) (fun y hy => (HZ.out y hy).1) (by have := HC.out; omega) (by omega)
      rw [hR] at hbo
      refine hbo.mono ?_
      clear hbo
      cases R with
      | none =>
        rintro e w2 ⟨rfl, hm2⟩
        have HM2 := Lib.hid (HM1.out.trans0 hm2)
        clear hm2 hR
        go_wp2_with fail
        go_ret
        exact ⟨rfl, HM2.out⟩
      | some D =>
        rintro e w2 ⟨d, F, r, E, rfl, hd, hr, hm2, hF, hEE⟩
        have hok := loadP_ok hR hx0 (by omega)
        have hs1 := HM1.out.size
        have hs2 := hm2.size
        have hbo : Both w2 w.heap.size F d E r D := ⟨hd, hr, hok, fun j hj => (hF j hj).2, fun j hj => by have := (hF j hj).1; omega, fun j hj => by have := hEE j hj; omega, HL.out.lt, by omega⟩
        have HPM : Hid (PlM w d r w2) := ⟨⟨F, E, D, hbo⟩, HM1.out.trans0 hm2⟩
        clear hbo hd hr hm2 hF hEE hok hR
        go_wp2_with fail
        go_loopw [12] (fun i wr => ∃ (q : Nat), q ≤ ns ∧ q ≤ 60 ∧ i = .int .i64 q ∧ Hid (PlM w d r wr)) (fun i _ => ns - (intOf i).toNat)
        case atStart => exact ⟨0, Nat.zero_le _, by omega, rfl, HPM.out⟩
        case round =>
          obtain ⟨q, hq, hq60, rfl, HPR⟩ := hrel
          by_cases hqn : q < ns ∧ q < 60
          · obtain ⟨hq1, hq2⟩ := hqn
            obtain ⟨bs, os, y, rfl, hy, g0, g1, g2, g3, g4⟩ := HS.out.ow hq1
            have hym := List.mem_of_getElem? hy
            have hyo := HO.out y hym
            obtain ⟨⟨F1, E1, D1, hb1⟩, hmr⟩ := HPR.out
            have hbw : bs < w.heap.size := World.block_lt_of_cell? w _ g0
            obtain ⟨what, nn, at_, B, m, cc, b, Q, qn, cq, picks⟩ := y
            simp only at g0 g1 g2 g3 g4
            have HW0 := Lib.hid g0
            have HW1 := Lib.hid g1
            have HW2 := Lib.hid g2
            have HW3 := Lib.hid g3
            have HW4 := Lib.hid g4
            have HOY := Lib.hid hyo
            have HB1 := Lib.hid hb1
            have HMR := Lib.hid hmr
            have HCE : Hid (∀ W, Mod Non w W → W.cell? ⟨bs, os + q * 5, none⟩ = some (.int .i64 what) ∧ W.cell? ⟨bs, os + q * 5 + 1, none⟩ = some (.int .i64 nn) ∧ W.cell? ⟨bs, os + q * 5 + 2, none⟩ = some (.int .i64 at_) ∧ W.cell? ⟨bs, os + q * 5 + 3, none⟩ = some (.slice B m cc) ∧ W.cell? ⟨bs, os + q * 5 + 4, none⟩ = some (.slice Q qn cq)) :=
              fun W hW => ⟨hW.cell HW0.out fun h => h, hW.cell HW1.out fun h => h, hW.cell HW2.out fun h => h, hW.cell HW3.out fun h => h, hW.cell HW4.out fun h => h⟩
            have hce := HCE.out wr HMR.out
            have i1 : (0 : Int) ≤ (q : Int) := by omega
            have i2 : (q : Int) < (ns : Int) := by omega
            have i3 : (q : Int) < 60 := by omega
            clear hy hym hyo hb1 hmr g0 g1 g2 g3 g4
            go_wp2_with fail
            refine wp_region_held_drew (S := fun w' => w'.cell? ⟨bs, os + q * 5, none⟩ = some (.int .i64 what) ∧ w'.cell? ⟨bs, os + q * 5 + 1, none⟩ = some (.int .i64 nn) ∧ w'.cell? ⟨bs, os + q * 5 + 2, none⟩ = some (.int .i64 at_) ∧ w'.cell? ⟨bs, os + q * 5 + 3, none⟩ = some (.slice B m cc) ∧ w'.cell? ⟨bs, os + q * 5 + 4, none⟩ = some (.slice Q qn cq)) (by kernel_rfl) (hce) (fun hHeld => ?_)
            refine wpAnyH_take (i := 0) (oi := { dst := some 67, op := Op.move (Operand.tmp 10), type := 24, pos := "law.go:96", after := #[], guard := none }) (v := ?_) rfl (by kernel_rfl) (by kernel_rfl) (by kernel_rfl) (fun _ _ _ h => h) (Or.inl ⟨by rfl, ?_⟩) hHeld ?_
            rotate_left
            · (intro w0 hS0; (try dsimp only at hS0); go_simp; try with_reducible rfl)
            try simp only [Act.put, List.setIfInBounds_toArray, List.set_cons_zero, List.set_cons_succ]
            refine wpAnyH_take (i := 1) (oi := { dst := some 68, op := Op.move (Operand.tmp 11), type := 45, pos := "law.go:96", after := #[], guard := none }) (v := ?_) rfl (by kernel_rfl) (by kernel_rfl) (by kernel_rfl) (fun _ _ _ h => h) (Or.inl ⟨by rfl, ?_⟩) hHeld ?_
            rotate_left
            · (intro w0 hS0; (try dsimp only at hS0); go_simp; try with_reducible rfl)
            try simp only [Act.put, List.setIfInBounds_toArray, List.set_cons_zero, List.set_cons_succ]
            refine wpAnyH_take (i := 2) (oi := { dst := some 69, op := Op.move (Operand.tmp 2), type := 42, pos := "law.go:96", after := #[], guard := none }) (v := ?_) rfl (by kernel_rfl) (by kernel_rfl) (by kernel_rfl) (fun _ _ _ h => h) (Or.inl ⟨by rfl, ?_⟩) hHeld ?_
            rotate_left
            · (intro w0 hS0; (try dsimp only at hS0); go_simp; try with_reducible rfl)
            try simp only [Act.put, List.setIfInBounds_toArray, List.set_cons_zero, List.set_cons_succ]
            refine wpAnyH_take (i := 3) (oi := { dst := some 70, op := Op.move (Operand.tmp 12), type := 3, pos := "law.go:96", after := #[], guard := none }) (v := ?_) rfl (by kernel_rfl) (by kernel_rfl) (by kernel_rfl) (fun _ _ _ h => h) (Or.inl ⟨by rfl, ?_⟩) hHeld ?_
            rotate_left
            · (intro w0 hS0; (try dsimp only at hS0); go_simp; try with_reducible rfl)
            try simp only [Act.put, List.setIfInBounds_toArray, List.set_cons_zero, List.set_cons_succ]
            refine wpAnyH_take (i := 4) (oi := { dst := some 71, op := Op.indexAddr 42 (Operand.tmp 69) (Operand.tmp 70), type := 0, pos := "law.go:96", after := #[{ on := 2, ground := Ground.data }, { on := 3, ground := Ground.data }], guard := none }) (v := ?_) rfl (by kernel_rfl) (by kernel_rfl) (by kernel_rfl) (fun _ _ _ h => h) (Or.inl ⟨by rfl, ?_⟩) hHeld ?_
            rotate_left
            · (intro w0 hS0; (try dsimp only at hS0); go_simp; try with_reducible rfl)
            try simp only [Act.put, List.setIfInBounds_toArray, List.set_cons_zero, List.set_cons_succ]
            refine wpAnyH_take (i := 5) (oi := { dst := some 72, op := Op.load 50 (Operand.tmp 71), type := 50, pos := "law.go:96", after := #[{ on := 4, ground := Ground.data }], guard := none }) (v := ?_) rfl (by kernel_rfl) (by kernel_rfl) (by kernel_rfl) (fun _ _ _ h => h) (Or.inl ⟨by rfl, ?_⟩) hHeld ?_
            rotate_left
            · (intro w0 hS0; (try dsimp only at hS0); go_simp; try with_reducible rfl)
            try simp only [Act.put, List.setIfInBounds_toArray, List.set_cons_zero, List.set_cons_succ]
            refine wpAnyH_ready (rs := [6]) (by kernel_rfl) (by simp) (AllReadyH.cons (o := { dst := some 73, op := Op.call { callee := Callee.value (Operand.func 17), args := #[Operand.tmp 67, Operand.tmp 68, Operand.tmp 72], argTypes := #[24, 45, 50] }, type := 4, pos := "law.go:96", after := #[{ on := 0, ground := Ground.data }, { on := 1, ground := Ground.data }, { on := 5, ground := Ground.data }], guard := none }) rfl (fun K hK => ?_) AllReadyH.nil)
            go_simp
            refine (step_any w.heap.size F1 d E1 r D1 what nn at_ B m cc b Q qn cq picks _ (HB1.out.mod0 ((Mod.refl Non wr).drew)) (HOY.out.arg.mod0 (HMR.out.drew)) HOY.out.m1 HOY.out.q1 HOY.out.at1).mono ?_
            rintro e wa ⟨rfl, F2, E2, D2, hb2, hm2⟩
            have HB2 := Lib.hid hb2
            have HMa := Lib.hid (HMR.out.drew.trans hm2 fun k hk => .inr hk)
            have HDN : Hid (wa.cell? ⟨r, 2, none⟩ = some (.int .i64 D2.done)) := hb2.rk.done
            clear hb2 hm2
            have HCF : Hid (∀ W, Mod Non wa W → (W.cell? ⟨bs, os + q * 5, none⟩ = some (.int .i64 what) ∧ W.cell? ⟨bs, os + q * 5 + 1, none⟩ = some (.int .i64 nn) ∧ W.cell? ⟨bs, os + q * 5 + 2, none⟩ = some (.int .i64 at_) ∧ W.cell? ⟨bs, os + q * 5 + 3, none⟩ = some (.slice B m cc) ∧ W.cell? ⟨bs, os + q * 5 + 4, none⟩ = some (.slice Q qn cq)) ∧ W.cell? ⟨r, 2, none⟩ = some (.int .i64 D2.done)) := fun W hW => ⟨HCE.out W (HMa.out.trans0 hW), hW.cell HDN.out fun h => h⟩
            refine hK.out _ _ (HCE.out _ HMa.out) (fun hHeld2 => ?_)
            clear hK K hHeld
            rename _ => hHeld
            try simp only [Act.put, List.setIfInBounds_toArray, List.set_cons_zero, List.set_cons_succ]
            refine wpAnyH_take (i := 7) (oi := { dst := some 74, op := Op.unOp UnOp.not 4 (Operand.tmp 73), type := 4, pos := "law.go:96", after := #[{ on := 6, ground := Ground.data }], guard := none }) (v := ?_) rfl (by kernel_rfl) (by kernel_rfl) (by kernel_rfl) (fun _ _ _ h => h) (Or.inl ⟨by rfl, ?_⟩) hHeld ?_
            rotate_left
            · (intro w0 hS0; (try dsimp only at hS0); go_simp; try with_reducible rfl)
            try simp only [Act.put, List.setIfInBounds_toArray, List.set_cons_zero, List.set_cons_succ]
            refine wpAnyH_take (i := 8) (oi := { dst := some 75, op := Op.move (Operand.tmp 74), type := 4, pos := "law.go:96", after := #[{ on := 7, ground := Ground.data }, { on := 6, ground := Ground.chain }], guard := none }) (v := ?_) rfl (by kernel_rfl) (by kernel_rfl) (by kernel_rfl) (fun _ _ _ h => h) (Or.inl ⟨by rfl, ?_⟩) hHeld ?_
            rotate_left
            · (intro w0 hS0; (try dsimp only at hS0); go_simp; try with_reducible rfl)
            try simp only [Act.put, List.setIfInBounds_toArray, List.set_cons_zero, List.set_cons_succ]
            refine wpAnyH_take (i := 9) (oi := { dst := some 76, op := Op.move (Operand.tmp 2), type := 42, pos := "law.go:96", after := #[{ on := 8, ground := Ground.guard }], guard := some (8, false) }) (v := ?_) rfl (by kernel_rfl) (by kernel_rfl) (by kernel_rfl) (fun _ _ _ h => h) (Or.inl ⟨by rfl, ?_⟩) hHeld ?_
            rotate_left
            · (intro w0 hS0; (try dsimp only at hS0); go_simp; try with_reducible rfl)
            try simp only [Act.put, List.setIfInBounds_toArray, List.set_cons_zero, List.set_cons_succ]
            refine wpAnyH_take (i := 10) (oi := { dst := some 77, op := Op.move (Operand.tmp 12), type := 3, pos := "law.go:96", after := #[{ on := 8, ground := Ground.guard }], guard := some (8, false) }) (v := ?_) rfl (by kernel_rfl) (by kernel_rfl) (by kernel_rfl) (fun _ _ _ h => h) (Or.inl ⟨by rfl, ?_⟩) hHeld ?_
            rotate_left
            · (intro w0 hS0; (try dsimp only at hS0); go_simp; try with_reducible rfl)
            try simp only [Act.put, List.setIfInBounds_toArray, List.set_cons_zero, List.set_cons_succ]
            refine wpAnyH_take (i := 11) (oi := { dst := some 78, op := Op.indexAddr 42 (Operand.tmp 76) (Operand.tmp 77), type := 0, pos := "law.go:96", after := #[{ on := 9, ground := Ground.data }, { on := 10, ground := Ground.data }, { on := 8, ground := Ground.guard }], guard := some (8, false) }) (v := ?_) rfl (by kernel_rfl) (by kernel_rfl) (by kernel_rfl) (fun _ _ _ h => h) (Or.inl ⟨by rfl, ?_⟩) hHeld ?_
            rotate_left
            · (intro w0 hS0; (try dsimp only at hS0); go_simp; try with_reducible rfl)
            try simp only [Act.put, List.setIfInBounds_toArray, List.set_cons_zero, List.set_cons_succ]
            refine wpAnyH_take (i := 12) (oi := { dst := some 79, op := Op.fieldAddr 50 (Operand.tmp 78) 1, type := 0, pos := "law.go:96", after := #[{ on := 11, ground := Ground.data }, { on := 8, ground := Ground.guard }], guard := some (8, false) }) (v := ?_) rfl (by kernel_rfl) (by kernel_rfl) (by kernel_rfl) (fun _ _ _ h => h) (Or.inl ⟨by rfl, ?_⟩) hHeld ?_
            rotate_left
            · (intro w0 hS0; (try dsimp only at hS0); go_simp; try with_reducible rfl)
            try simp only [Act.put, List.setIfInBounds_toArray, List.set_cons_zero, List.set_cons_succ]
            refine wpAnyH_take (i := 13) (oi := { dst := some 80, op := Op.load 3 (Operand.tmp 79), type := 3, pos := "law.go:96", after := #[{ on := 12, ground := Ground.data }, { on := 8, ground := Ground.guard }], guard := some (8, false) }) (v := ?_) rfl (by kernel_rfl) (by kernel_rfl) (by kernel_rfl) (fun _ _ _ h => h) (Or.inl ⟨by rfl, ?_⟩) hHeld ?_
            rotate_left
            · (intro w0 hS0; (try dsimp only at hS0); go_simp; try with_reducible rfl)
            try simp only [Act.put, List.setIfInBounds_toArray, List.set_cons_zero, List.set_cons_succ]
            refine wpAnyH_take (i := 15) (oi := { dst := some 82, op := Op.move (Operand.tmp 2), type := 42, pos := "law.go:96", after := #[{ on := 8, ground := Ground.guard }], guard := some (8, false) }) (v := ?_) rfl (by kernel_rfl) (by kernel_rfl) (by kernel_rfl) (fun _ _ _ h => h) (Or.inl ⟨by rfl, ?_⟩) hHeld ?_
            rotate_left
            · (intro w0 hS0; (try dsimp only at hS0); go_simp; try with_reducible rfl)
            try simp only [Act.put, List.setIfInBounds_toArray, List.set_cons_zero, List.set_cons_succ]
            refine wpAnyH_take (i := 16) (oi := { dst := some 83, op := Op.move (Operand.tmp 12), type := 3, pos := "law.go:96", after := #[{ on := 8, ground := Ground.guard }], guard := some (8, false) }) (v := ?_) rfl (by kernel_rfl) (by kernel_rfl) (by kernel_rfl) (fun _ _ _ h => h) (Or.inl ⟨by rfl, ?_⟩) hHeld ?_
            rotate_left
            · (intro w0 hS0; (try dsimp only at hS0); go_simp; try with_reducible rfl)
            try simp only [Act.put, List.setIfInBounds_toArray, List.set_cons_zero, List.set_cons_succ]
            refine wpAnyH_take (i := 17) (oi := { dst := some 84, op := Op.indexAddr 42 (Operand.tmp 82) (Operand.tmp 83), type := 0, pos := "law.go:96", after := #[{ on := 15, ground := Ground.data }, { on := 16, ground := Ground.data }, { on := 8, ground := Ground.guard }], guard := some (8, false) }) (v := ?_) rfl (by kernel_rfl) (by kernel_rfl) (by kernel_rfl) (fun _ _ _ h => h) (Or.inl ⟨by rfl, ?_⟩) hHeld ?_
            rotate_left
            · (intro w0 hS0; (try dsimp only at hS0); go_simp; try with_reducible rfl)
            try simp only [Act.put, List.setIfInBounds_toArray, List.set_cons_zero, List.set_cons_succ]
            refine wpAnyH_take (i := 18) (oi := { dst := some 85, op := Op.fieldAddr 50 (Operand.tmp 84) 1, type := 0, pos := "law.go:96", after := #[{ on := 17, ground := Ground.data }, { on := 8, ground := Ground.guard }], guard := some (8, false) }) (v := ?_) rfl (by kernel_rfl) (by kernel_rfl) (by kernel_rfl) (fun _ _ _ h => h) (Or.inl ⟨by rfl, ?_⟩) hHeld ?_
            rotate_left
            · (intro w0 hS0; (try dsimp only at hS0); go_simp; try with_reducible rfl)
            try simp only [Act.put, List.setIfInBounds_toArray, List.set_cons_zero, List.set_cons_succ]
            refine wpAnyH_take (i := 19) (oi := { dst := some 86, op := Op.load 3 (Operand.tmp 85), type := 3, pos := "law.go:96", after := #[{ on := 18, ground := Ground.data }, { on := 8, ground := Ground.guard }], guard := some (8, false) }) (v := ?_) rfl (by kernel_rfl) (by kernel_rfl) (by kernel_rfl) (fun _ _ _ h => h) (Or.inl ⟨by rfl, ?_⟩) hHeld ?_
            rotate_left
            · (intro w0 hS0; (try dsimp only at hS0); go_simp; try with_reducible rfl)
            try simp only [Act.put, List.setIfInBounds_toArray, List.set_cons_zero, List.set_cons_succ]
            refine wpAnyH_ready (rs := [14]) (by kernel_rfl) (by simp) (AllReadyH.cons (o := { dst := some 81, op := Op.call { callee := Callee.value (Operand.func 9), args := #[Operand.tmp 80], argTypes := #[3] }, type := 9, pos := "law.go:96", after := #[{ on := 13, ground := Ground.data }, { on := 8, ground := Ground.chain }, { on := 8, ground := Ground.guard }], guard := some (8, false) }) rfl (fun K hK => ?_) AllReadyH.nil)
            go_simp
            refine (name_any nn _ HB2.out.dk.lay).mono ?_
            rintro e wb ⟨rfl, hm2⟩
            have HMb := Lib.hid hm2
            clear hm2
            refine hK.out _ _ (HCE.out _ (HMa.out.trans0 HMb.out)) (fun hHeld2 => ?_)
            clear hK K hHeld
            rename _ => hHeld
            try simp only [Act.put, List.setIfInBounds_toArray, List.set_cons_zero, List.set_cons_succ]
            refine wpAnyH_ready (rs := [20]) (by kernel_rfl) (by simp) (AllReadyH.cons (o := { dst := some 87, op := Op.call { callee := Callee.value (Operand.func 18), args := #[Operand.tmp 86], argTypes := #[3] }, type := 9, pos := "law.go:96", after := #[{ on := 19, ground := Ground.data }, { on := 14, ground := Ground.chain }, { on := 8, ground := Ground.guard }], guard := some (8, false) }) rfl (fun K hK => ?_) AllReadyH.nil)
            go_simp
            refine (nameR_any nn _).mono ?_
            rintro e wc ⟨rfl, hm2⟩
            have HMc := Lib.hid (HMb.out.trans0 hm2)
            clear hm2
            refine hK.out _ _ (HCE.out _ (HMa.out.trans0 HMc.out)) (fun hHeld2 => ?_)
            clear hK K hHeld
            rename _ => hHeld
            try simp only [Act.put, List.setIfInBounds_toArray, List.set_cons_zero, List.set_cons_succ]
            refine wpAnyH_take (i := 21) (oi := { dst := some 88, op := Op.binOp BinOp.neq 9 (Operand.tmp 81) (Operand.tmp 87) 9, type := 4, pos := "law.go:96", after := #[{ on := 14, ground := Ground.data }, { on := 20, ground := Ground.data }, { on := 8, ground := Ground.guard }], guard := some (8, false) }) (v := ?_) rfl (by kernel_rfl) (by kernel_rfl) (by kernel_rfl) (fun _ _ _ h => h) (Or.inl ⟨by rfl, ?_⟩) hHeld ?_
            rotate_left
            · (intro w0 hS0; (try dsimp only at hS0); go_simp; try with_reducible rfl)
            try simp only [Act.put, List.setIfInBounds_toArray, List.set_cons_zero, List.set_cons_succ]
            refine wpAnyH_take (i := 22) (oi := { dst := some 89, op := Op.pick (Operand.tmp 75) (Operand.const (Value.bool true)) (Operand.tmp 88), type := 4, pos := "law.go:96", after := #[{ on := 8, ground := Ground.data }, { on := 21, ground := Ground.data }], guard := none }) (v := ?_) rfl (by kernel_rfl) (by kernel_rfl) (by kernel_rfl) (fun _ _ _ h => h) (Or.inl ⟨by rfl, ?_⟩) hHeld ?_
            rotate_left
            · (intro w0 hS0; (try dsimp only at hS0); go_simp; try with_reducible rfl)
            try simp only [Act.put, List.setIfInBounds_toArray, List.set_cons_zero, List.set_cons_succ]
            refine wpAnyH_take (i := 23) (oi := { dst := some 90, op := Op.move (Operand.tmp 89), type := 4, pos := "law.go:96", after := #[{ on := 22, ground := Ground.data }, { on := 20, ground := Ground.chain }], guard := none }) (v := ?_) rfl (by kernel_rfl) (by kernel_rfl) (by kernel_rfl) (fun _ _ _ h => h) (Or.inl ⟨by rfl, ?_⟩) hHeld ?_
            rotate_left
            · (intro w0 hS0; (try dsimp only at hS0); go_simp; try with_reducible rfl)
            try simp only [Act.put, List.setIfInBounds_toArray, List.set_cons_zero, List.set_cons_succ]
            refine wpAnyH_take (i := 24) (oi := { dst := some 91, op := Op.move (Operand.tmp 10), type := 24, pos := "law.go:96", after := #[{ on := 23, ground := Ground.guard }], guard := some (23, false) }) (v := ?_) rfl (by kernel_rfl) (by kernel_rfl) (by kernel_rfl) (fun _ _ _ h => h) (Or.inl ⟨by rfl, ?_⟩) hHeld ?_
            rotate_left
            · (intro w0 hS0; (try dsimp only at hS0); go_simp; try with_reducible rfl)
            try simp only [Act.put, List.setIfInBounds_toArray, List.set_cons_zero, List.set_cons_succ]
            refine wpAnyH_take (i := 26) (oi := { dst := some 93, op := Op.move (Operand.tmp 11), type := 45, pos := "law.go:96", after := #[{ on := 23, ground := Ground.guard }], guard := some (23, false) }) (v := ?_) rfl (by kernel_rfl) (by kernel_rfl) (by kernel_rfl) (fun _ _ _ h => h) (Or.inl ⟨by rfl, ?_⟩) hHeld ?_
            rotate_left
            · (intro w0 hS0; (try dsimp only at hS0); go_simp; try with_reducible rfl)
            try simp only [Act.put, List.setIfInBounds_toArray, List.set_cons_zero, List.set_cons_succ]
            refine wpAnyH_ready (rs := [25]) (by kernel_rfl) (by simp) (AllReadyH.cons (o := { dst := some 92, op := Op.call { callee := Callee.value (Operand.func 11), args := #[Operand.tmp 91], argTypes := #[24] }, type := 22, pos := "law.go:96", after := #[{ on := 24, ground := Ground.data }, { on := 23, ground := Ground.chain }, { on := 23, ground := Ground.guard }], guard := some (23, false) }) rfl (fun K hK => ?_) AllReadyH.nil)
            go_simp
            refine (segsA_any F2 d D2 _ (HB2.out.dk.mod0 HMc.out) HB2.out.ok (HER.out.mod0 (HMa.out.trans0 HMc.out))).mono ?_
            rintro e wd ⟨Ad, nd, cd, Ld, rfl, hLd, hrd, hncd, hcmd, hm2⟩
            have HLd := Lib.hid hLd
            have HRd := Lib.hid hrd
            have HMd := Lib.hid (HMc.out.trans0 hm2)
            clear hLd hrd hm2
            refine hK.out _ _ (HCE.out _ (HMa.out.trans0 HMd.out)) (fun hHeld2 => ?_)
            clear hK K hHeld
            rename _ => hHeld
            try simp only [Act.put, List.setIfInBounds_toArray, List.set_cons_zero, List.set_cons_succ]
            refine wpAnyH_ready (rs := [27]) (by kernel_rfl) (by simp) (AllReadyH.cons (o := { dst := some 94, op := Op.call { callee := Callee.value (Operand.func 19), args := #[Operand.tmp 93], argTypes := #[45] }, type := 22, pos := "law.go:96", after := #[{ on := 26, ground := Ground.data }, { on := 25, ground := Ground.chain }, { on := 23, ground := Ground.guard }], guard := some (23, false) }) rfl (fun K hK => ?_) AllReadyH.nil)
            go_simp
            refine (segsR_any E2 r D2 _ (HB2.out.rk.mod0 HMd.out) (by have := files_len HB2.out.ok; omega)).mono ?_
            rintro e we ⟨Ae, ne, ce, Le, rfl, hLe, hre, hnce, hcme, hm2⟩
            rw [← hLe.names HLd.out] at hre
            have HRe := Lib.hid hre
            have HRd2 := Lib.hid (HRd.out.mod0 hm2)
            have HMe := Lib.hid (HMd.out.trans0 hm2)
            clear hLe hre hm2
            refine hK.out _ _ (HCE.out _ (HMa.out.trans0 HMe.out)) (fun hHeld2 => ?_)
            clear hK K hHeld
            rename _ => hHeld
            try simp only [Act.put, List.setIfInBounds_toArray, List.set_cons_zero, List.set_cons_succ]
            refine wpAnyH_ready (rs := [28]) (by kernel_rfl) (by simp) (AllReadyH.cons (o := { dst := some 95, op := Op.call { callee := Callee.value (Operand.func 15), args := #[Operand.tmp 92, Operand.tmp 94], argTypes := #[22, 22] }, type := 4, pos := "law.go:96", after := #[{ on := 25, ground := Ground.data }, { on := 27, ground := Ground.data }, { on := 27, ground := Ground.chain }, { on := 23, ground := Ground.guard }], guard := some (23, false) }) rfl (fun K hK => ?_) AllReadyH.nil)
            go_simp
            refine (sameInts_any Ad Ae nd ne cd ce _ _ _ HRd2.out HRe.out (by omega) (by omega)).mono ?_
            rw [decide_eq_true rfl]
            rintro e wf ⟨rfl, hm2⟩
            have HMf := Lib.hid (HMe.out.trans0 hm2)
            clear hm2
            refine hK.out _ _ (HCE.out _ (HMa.out.trans0 HMf.out)) (fun hHeld2 => ?_)
            clear hK K hHeld
            rename _ => hHeld
            try simp only [Act.put, List.setIfInBounds_toArray, List.set_cons_zero, List.set_cons_succ]
            refine heldMono (S' := fun w' => (w'.cell? ⟨bs, os + q * 5, none⟩ = some (.int .i64 what) ∧ w'.cell? ⟨bs, os + q * 5 + 1, none⟩ = some (.int .i64 nn) ∧ w'.cell? ⟨bs, os + q * 5 + 2, none⟩ = some (.int .i64 at_) ∧ w'.cell? ⟨bs, os + q * 5 + 3, none⟩ = some (.slice B m cc) ∧ w'.cell? ⟨bs, os + q * 5 + 4, none⟩ = some (.slice Q qn cq)) ∧ w'.cell? ⟨r, 2, none⟩ = some (.int .i64 D2.done)) (fun _ h => h.1) _ _ _ _ ?_
            have hHeldB := HCF.out _ HMf.out
            clear hHeld
            rename _ => hHeld
            refine wpAnyH_take (i := 29) (oi := { dst := some 96, op := Op.unOp UnOp.not 4 (Operand.tmp 95), type := 4, pos := "law.go:96", after := #[{ on := 28, ground := Ground.data }, { on := 23, ground := Ground.guard }], guard := some (23, false) }) (v := ?_) rfl (by kernel_rfl) (by kernel_rfl) (by kernel_rfl) (fun _ _ _ h => h) (Or.inl ⟨by rfl, ?_⟩) hHeld ?_
            rotate_left
            · (intro w0 hS0; (try dsimp only at hS0); go_simp; try with_reducible rfl)
            try simp only [Act.put, List.setIfInBounds_toArray, List.set_cons_zero, List.set_cons_succ]
            refine wpAnyH_take (i := 30) (oi := { dst := some 97, op := Op.pick (Operand.tmp 90) (Operand.const (Value.bool true)) (Operand.tmp 96), type := 4, pos := "law.go:96", after := #[{ on := 23, ground := Ground.data }, { on := 29, ground := Ground.data }], guard := none }) (v := ?_) rfl (by kernel_rfl) (by kernel_rfl) (by kernel_rfl) (fun _ _ _ h => h) (Or.inl ⟨by rfl, ?_⟩) hHeld ?_
            rotate_left
            · (intro w0 hS0; (try dsimp only at hS0); go_simp; try with_reducible rfl)
            try simp only [Act.put, List.setIfInBounds_toArray, List.set_cons_zero, List.set_cons_succ]
            refine wpAnyH_take (i := 31) (oi := { dst := some 98, op := Op.move (Operand.tmp 97), type := 4, pos := "law.go:96", after := #[{ on := 30, ground := Ground.data }, { on := 28, ground := Ground.chain }], guard := none }) (v := ?_) rfl (by kernel_rfl) (by kernel_rfl) (by kernel_rfl) (fun _ _ _ h => h) (Or.inl ⟨by rfl, ?_⟩) hHeld ?_
            rotate_left
            · (intro w0 hS0; (try dsimp only at hS0); go_simp; try with_reducible rfl)
            try simp only [Act.put, List.setIfInBounds_toArray, List.set_cons_zero, List.set_cons_succ]
            refine wpAnyH_take (i := 32) (oi := { dst := some 99, op := Op.move (Operand.tmp 10), type := 24, pos := "law.go:96", after := #[{ on := 31, ground := Ground.guard }], guard := some (31, false) }) (v := ?_) rfl (by kernel_rfl) (by kernel_rfl) (by kernel_rfl) (fun _ _ _ h => h) (Or.inl ⟨by rfl, ?_⟩) hHeld ?_
            rotate_left
            · (intro w0 hS0; (try dsimp only at hS0); go_simp; try with_reducible rfl)
            try simp only [Act.put, List.setIfInBounds_toArray, List.set_cons_zero, List.set_cons_succ]
            refine wpAnyH_take (i := 34) (oi := { dst := some 101, op := Op.move (Operand.tmp 11), type := 45, pos := "law.go:96", after := #[{ on := 31, ground := Ground.guard }], guard := some (31, false) }) (v := ?_) rfl (by kernel_rfl) (by kernel_rfl) (by kernel_rfl) (fun _ _ _ h => h) (Or.inl ⟨by rfl, ?_⟩) hHeld ?_
            rotate_left
            · (intro w0 hS0; (try dsimp only at hS0); go_simp; try with_reducible rfl)
            try simp only [Act.put, List.setIfInBounds_toArray, List.set_cons_zero, List.set_cons_succ]
            refine wpAnyH_take (i := 35) (oi := { dst := some 102, op := Op.nilCheck (Operand.tmp 101), type := 0, pos := "law.go:96", after := #[{ on := 34, ground := Ground.data }, { on := 31, ground := Ground.guard }], guard := some (31, false) }) (v := ?_) rfl (by kernel_rfl) (by kernel_rfl) (by kernel_rfl) (fun _ _ _ h => h) (Or.inl ⟨by rfl, ?_⟩) hHeld ?_
            rotate_left
            · (intro w0 hS0; (try dsimp only at hS0); go_simp; try with_reducible rfl)
            try simp only [Act.put, List.setIfInBounds_toArray, List.set_cons_zero, List.set_cons_succ]
            refine wpAnyH_take (i := 36) (oi := { dst := some 103, op := Op.fieldAddr 54 (Operand.tmp 102) 2, type := 0, pos := "law.go:96", after := #[{ on := 35, ground := Ground.data }, { on := 31, ground := Ground.guard }], guard := some (31, false) }) (v := ?_) rfl (by kernel_rfl) (by kernel_rfl) (by kernel_rfl) (fun _ _ _ h => h) (Or.inl ⟨by rfl, ?_⟩) hHeld ?_
            rotate_left
            · (intro w0 hS0; (try dsimp only at hS0); go_simp; try with_reducible rfl)
            try simp only [Act.put, List.setIfInBounds_toArray, List.set_cons_zero, List.set_cons_succ]
            refine wpAnyH_take (i := 37) (oi := { dst := some 104, op := Op.load 3 (Operand.tmp 103), type := 3, pos := "law.go:96", after := #[{ on := 36, ground := Ground.data }, { on := 31, ground := Ground.guard }], guard := some (31, false) }) (v := ?_) rfl (by kernel_rfl) (by kernel_rfl) (by kernel_rfl) (fun _ _ _ h => h) (Or.inl ⟨by rfl, ?_⟩) hHeld ?_
            rotate_left
            · (intro w0 hS0; (try dsimp only at hS0); go_simp; try with_reducible rfl)
            try simp only [Act.put, List.setIfInBounds_toArray, List.set_cons_zero, List.set_cons_succ]
            refine wpAnyH_ready (rs := [33]) (by kernel_rfl) (by simp) (AllReadyH.cons (o := { dst := some 100, op := Op.call { callee := Callee.value (Operand.func 20), args := #[Operand.tmp 99], argTypes := #[24] }, type := 3, pos := "law.go:96", after := #[{ on := 32, ground := Ground.data }, { on := 31, ground := Ground.chain }, { on := 31, ground := Ground.guard }], guard := some (31, false) }) rfl (fun K hK => ?_) AllReadyH.nil)
            go_simp
            refine (ops_any F2 d D2 _ (HB2.out.dk.mod0 HMf.out)).mono ?_
            rintro e wg ⟨rfl, rfl⟩
            refine hK.out _ _ (HCF.out _ HMf.out) (fun hHeld2 => ?_)
            clear hK K hHeld
            rename _ => hHeld
            try simp only [Act.put, List.setIfInBounds_toArray, List.set_cons_zero, List.set_cons_succ]
            refine wpAnyH_take (i := 38) (oi := { dst := some 105, op := Op.binOp BinOp.neq 3 (Operand.tmp 100) (Operand.tmp 104) 3, type := 4, pos := "law.go:96", after := #[{ on := 33, ground := Ground.data }, { on := 37, ground := Ground.data }, { on := 31, ground := Ground.guard }], guard := some (31, false) }) (v := ?_) rfl (by kernel_rfl) (by kernel_rfl) (by kernel_rfl) (fun _ _ _ h => h) (Or.inl ⟨by rfl, ?_⟩) hHeld ?_
            rotate_left
            · (intro w0 hS0; (try dsimp only at hS0); go_simp; try with_reducible rfl)
            try simp only [Act.put, List.setIfInBounds_toArray, List.set_cons_zero, List.set_cons_succ]
            refine wpAnyH_take (i := 39) (oi := { dst := some 106, op := Op.pick (Operand.tmp 98) (Operand.const (Value.bool true)) (Operand.tmp 105), type := 4, pos := "law.go:96", after := #[{ on := 31, ground := Ground.data }, { on := 38, ground := Ground.data }], guard := none }) (v := ?_) rfl (by kernel_rfl) (by kernel_rfl) (by kernel_rfl) (fun _ _ _ h => h) (Or.inl ⟨by rfl, ?_⟩) hHeld ?_
            rotate_left
            · (intro w0 hS0; (try dsimp only at hS0); go_simp; try with_reducible rfl)
            try simp only [Act.put, List.setIfInBounds_toArray, List.set_cons_zero, List.set_cons_succ]
            refine wpAnyH_take (i := 40) (oi := { dst := some 107, op := Op.move (Operand.tmp 106), type := 4, pos := "law.go:96", after := #[{ on := 39, ground := Ground.data }, { on := 33, ground := Ground.chain }], guard := none }) (v := ?_) rfl (by kernel_rfl) (by kernel_rfl) (by kernel_rfl) (fun _ _ _ h => h) (Or.inl ⟨by rfl, ?_⟩) hHeld ?_
            rotate_left
            · (intro w0 hS0; (try dsimp only at hS0); go_simp; try with_reducible rfl)
            try simp only [Act.put, List.setIfInBounds_toArray, List.set_cons_zero, List.set_cons_succ]
            refine wpAnyH_take (i := 41) (oi := { dst := some 108, op := Op.move (Operand.tmp 10), type := 24, pos := "law.go:96", after := #[{ on := 40, ground := Ground.guard }], guard := some (40, false) }) (v := ?_) rfl (by kernel_rfl) (by kernel_rfl) (by kernel_rfl) (fun _ _ _ h => h) (Or.inl ⟨by rfl, ?_⟩) hHeld ?_
            rotate_left
            · (intro w0 hS0; (try dsimp only at hS0); go_simp; try with_reducible rfl)
            try simp only [Act.put, List.setIfInBounds_toArray, List.set_cons_zero, List.set_cons_succ]
            refine wpAnyH_take (i := 44) (oi := { dst := some 111, op := Op.move (Operand.tmp 11), type := 45, pos := "law.go:96", after := #[{ on := 40, ground := Ground.guard }], guard := some (40, false) }) (v := ?_) rfl (by kernel_rfl) (by kernel_rfl) (by kernel_rfl) (fun _ _ _ h => h) (Or.inl ⟨by rfl, ?_⟩) hHeld ?_
            rotate_left
            · (intro w0 hS0; (try dsimp only at hS0); go_simp; try with_reducible rfl)
            try simp only [Act.put, List.setIfInBounds_toArray, List.set_cons_zero, List.set_cons_succ]
            refine wpAnyH_ready (rs := [42]) (by kernel_rfl) (by simp) (AllReadyH.cons (o := { dst := some 109, op := Op.call { callee := Callee.value (Operand.func 23), args := #[Operand.tmp 108], argTypes := #[24] }, type := 57, pos := "law.go:96", after := #[{ on := 41, ground := Ground.data }, { on := 40, ground := Ground.chain }, { on := 40, ground := Ground.guard }], guard := some (40, false) }) rfl (fun K hK => ?_) AllReadyH.nil)
            go_simp
            refine (dump_any F2 d D2 _ (HB2.out.dk.mod0 HMf.out) HB2.out.ok HB2.out.ok.nd).mono ?_
            rintro e wh ⟨Ah, nh, ch, xh, rfl, hSh, hrh, hnch, hcmh, hm2⟩
            have HSh := Lib.hid hSh
            have HRh := Lib.hid hrh
            have HMh := Lib.hid (HMf.out.trans0 hm2)
            have hnh : nh ≤ 100000000000 := by
              have h1 := files_len HB2.out.ok
              have h2 := hSh.perm.length_eq
              have h3 := hrh.1.1
              rw [flat3_len] at h3
              simp only [List.length_map] at h2
              omega
            clear hSh hrh hm2
            refine hK.out _ _ (HCF.out _ HMh.out) (fun hHeld2 => ?_)
            clear hK K hHeld
            rename _ => hHeld
            try simp only [Act.put, List.setIfInBounds_toArray, List.set_cons_zero, List.set_cons_succ]
            refine wpAnyH_ready (rs := [43]) (by kernel_rfl) (by simp) (AllReadyH.cons (o := { dst := some 110, op := Op.call { callee := Callee.value (Operand.func 22), args := #[Operand.tmp 109], argTypes := #[57] }, type := 41, pos := "law.go:96", after := #[{ on := 42, ground := Ground.data }, { on := 42, ground := Ground.chain }, { on := 40, ground := Ground.guard }], guard := some (40, false) }) rfl (fun K hK => ?_) AllReadyH.nil)
            go_simp
            refine (theirs_any Ah nh ch xh _ HRh.out.1 hnh).mono ?_
            rintro e wi ⟨Ai, ci, rfl, hri, hnci, hcmi, hm2⟩
            have HRi : Hid (RdF wi Ai nh xh) := ⟨hri, fun y hy => (HRh.out.2 y hy).mod0 hm2⟩
            have HMi := Lib.hid (HMh.out.trans0 hm2)
            clear hri hm2
            refine hK.out _ _ (HCF.out _ HMi.out) (fun hHeld2 => ?_)
            clear hK K hHeld
            rename _ => hHeld
            try simp only [Act.put, List.setIfInBounds_toArray, List.set_cons_zero, List.set_cons_succ]
            refine wpAnyH_ready (rs := [45]) (by kernel_rfl) (by simp) (AllReadyH.cons (o := { dst := some 112, op := Op.call { callee := Callee.value (Operand.func 24), args := #[Operand.tmp 111], argTypes := #[45] }, type := 41, pos := "law.go:96", after := #[{ on := 44, ground := Ground.data }, { on := 43, ground := Ground.chain }, { on := 40, ground := Ground.guard }], guard := some (40, false) }) rfl (fun K hK => ?_) AllReadyH.nil)
            go_simp
            refine (dumpR_any E2 r D2 _ (HB2.out.rk.mod0 HMi.out) (by have := files_len HB2.out.ok; omega) (fun f hf => bytes_le HB2.out.ok f hf)).mono ?_
            rintro e wj ⟨Aj, nj, cj, xj, rfl, hSj, hrj, hncj, hcmj, hm2⟩
            have HXX : Hid (xh.map (·.f) = xj.map (·.f)) := sorted_unique HSh.out.sort hSj.sort (HSh.out.perm.trans hSj.perm.symm)
            have hnj : nh = nj := by
              have h1 := hrj.1.1
              have h2 := HRi.out.1.1
              have h3 := congrArg List.length HXX.out
              rw [flat3_len] at h1 h2
              simp only [List.length_map] at h3
              omega
            subst hnj
            have HRj := Lib.hid hrj
            have HRi2 := Lib.hid (HRi.out.mod0 hm2)
            have HMj := Lib.hid (HMi.out.trans0 hm2)
            clear hSj hrj hm2
            refine hK.out _ _ (HCF.out _ HMj.out) (fun hHeld2 => ?_)
            clear hK K hHeld
            rename _ => hHeld
            try simp only [Act.put, List.setIfInBounds_toArray, List.set_cons_zero, List.set_cons_succ]
            refine wpAnyH_ready (rs := [46]) (by kernel_rfl) (by simp) (AllReadyH.cons (o := { dst := some 113, op := Op.call { callee := Callee.value (Operand.func 21), args := #[Operand.tmp 110, Operand.tmp 112], argTypes := #[41, 41] }, type := 4, pos := "law.go:96", after := #[{ on := 43, ground := Ground.data }, { on := 45, ground := Ground.data }, { on := 45, ground := Ground.chain }, { on := 40, ground := Ground.guard }], guard := some (40, false) }) rfl (fun K hK => ?_) AllReadyH.nil)
            go_simp
            refine (sameFiles_eq Ai Aj nh ci cj xh xj _ HRi2.out HRj.out HXX.out (by omega)).mono ?_
            rintro e wk ⟨rfl, qk, rfl⟩
            have HMk := Lib.hid (HMj.out.drewN qk)
            refine hK.out _ _ (HCF.out _ HMk.out) (fun hHeld2 => ?_)
            clear hK K hHeld
            rename _ => hHeld
            try simp only [Act.put, List.setIfInBounds_toArray, List.set_cons_zero, List.set_cons_succ]
            refine wpAnyH_take (i := 47) (oi := { dst := some 114, op := Op.unOp UnOp.not 4 (Operand.tmp 113), type := 4, pos := "law.go:96", after := #[{ on := 46, ground := Ground.data }, { on := 40, ground := Ground.guard }], guard := some (40, false) }) (v := ?_) rfl (by kernel_rfl) (by kernel_rfl) (by kernel_rfl) (fun _ _ _ h => h) (Or.inl ⟨by rfl, ?_⟩) hHeld ?_
            rotate_left
            · (intro w0 hS0; (try dsimp only at hS0); go_simp; try with_reducible rfl)
            try simp only [Act.put, List.setIfInBounds_toArray, List.set_cons_zero, List.set_cons_succ]
            refine wpAnyH_take (i := 48) (oi := { dst := some 115, op := Op.pick (Operand.tmp 107) (Operand.const (Value.bool true)) (Operand.tmp 114), type := 4, pos := "law.go:96", after := #[{ on := 40, ground := Ground.data }, { on := 47, ground := Ground.data }], guard := none }) (v := ?_) rfl (by kernel_rfl) (by kernel_rfl) (by kernel_rfl) (fun _ _ _ h => h) (Or.inl ⟨by rfl, ?_⟩) hHeld ?_
            rotate_left
            · (intro w0 hS0; (try dsimp only at hS0); go_simp; try with_reducible rfl)
            try simp only [Act.put, List.setIfInBounds_toArray, List.set_cons_zero, List.set_cons_succ]
            refine wpAnyH_done (by kernel_rfl) ?_ _
            go_wp2_with fail
            go_roundw
            case rel => exact ⟨q + 1, by omega, by omega, by go_num, ⟨⟨F2, E2, D2, HB2.out.mod0 HMk.out⟩, HMa.out.trans0 HMk.out⟩⟩
            case measure => simp [intOf]; omega
          · have hend : Hid (Mod Non w wr) := HPR.out.mod
            have hor : (q < ns ∧ q = 60) ∨ q = ns := by omega
            rcases hor with ⟨h1, rfl⟩ | rfl
            all_goals
              clear hqn
              go_wp2_with (first
                | (go_at_call 12; refine (replay_nil _ _).mono ?_; rintro e wx ⟨rfl, rfl⟩)
                | (go_at_call 10; refine (add_nil _ _ _ _ _).mono ?_; rintro e wy ⟨rfl, hmy⟩; have HMY := Lib.hid (hend.out.trans0 hmy); clear hmy)
                | (go_at_call 13; refine (drop_nil _ _).mono ?_; rintro e wz ⟨rfl, rfl⟩)
                | (go_at_call 11; refine (segs_nil _).mono ?_; rintro e wv ⟨rfl, rfl⟩))
              go_ret
              exact ⟨rfl, HMY.out⟩

end Go.Proofs.YtgdamcimpgapgaaGreatDoor
