/- The walk of CatPlays. -/
import Derived.Test.YtdpjnpjmokncdaaGreatDoorB47
import Derived.Test.YtdpjnpjmokncdaaGreatDoorB48
import Derived.Test.YtdpjnpjmokncdaaGreatDoorB14
import Derived.Test.YtdpjnpjmokncdaaGreatDoorB13
import Derived.Test.YtdpjnpjmokncdaaGreatDoorB44
import Derived.Test.YtdpjnpjmokncdaaGreatDoorB27
import Derived.Deep.RegionHeld
namespace Go.Proofs.YtdpjnpjmokncdaaGreatDoor
open Go.RowKit

/-- an operation of the script, as it lies. -/
structure Oq where
  what : Int
  at_ : Int
  x : Vw
  Q : Option Addr
  q : Nat
  cq : Nat
  picks : List Int
def Oq.cells (o : Oq) : List Value := [.int .i64 o.what, .int .i64 o.at_, .int .i64 o.x.gen, .int .i64 o.x.next, .int .i64 o.x.log, .int .i64 o.x.seq, .slice o.x.A o.x.ms.length o.x.c, .slice o.Q o.q o.cq]
structure OqOk (w : World) (o : Oq) : Prop where
  vw : VwOk w o.x
  rd : Rd w o.Q o.q (o.picks.map (Value.int .i64))
  q1 : o.q ≤ 9223372036854775807
  at1 : o.at_ ≤ 9223372036854775807
theorem Rd.oq {w : World} {A : Option Addr} {n : Nat} {xs : List Oq} (hl : xs.length = n) (h : Rd w A (n * 8) (xs.flatMap Oq.cells)) {i : Nat} (hi : i < n) :
    ∃ b o x, A = some ⟨b, o, none⟩ ∧ xs[i]? = some x ∧ ∀ j u, j < 8 → (Oq.cells x)[j]? = some u → w.cell? ⟨b, o + (i * 8 + j), none⟩ = some u := by
  have hk : ∀ x, (Oq.cells x).length = 8 := fun _ => rfl
  obtain ⟨b, o, rfl, hc⟩ := h.2 (by omega)
  have hx : xs[i]? = some xs[i] := List.getElem?_eq_getElem (by omega)
  exact ⟨b, o, xs[i], rfl, hx, fun j u hj hu => hc (i * 8 + j) _ (by rw [fget 8 _ hk hx j hj]; exact hu)⟩
theorem and20c (n : Int) : bits .and .i64 n 1048575 = n % 1048576 := and_maskC n 20 (by omega)
theorem RkIs.done {w : World} {E : Nat → Prop} {r : Nat} {D : Dk} (h : RkIs w E r D) : w.cell? ⟨r, 2, none⟩ = some (.int .i64 D.done) := by
  obtain ⟨B, A, n, c, xs, h1, _⟩ := h
  exact h1.blk.cell 2
theorem bytes_le {D : Dk} (ok : DkOk D) (f : Fl) (hf : f ∈ D.files) : f.bytes.length ≤ 1099511627776 := by
  have h1 : ∀ (l : List Fl), f ∈ l → costF f ≤ usedF l := by
    intro l
    induction l with
    | nil => intro h; cases h
    | cons g r ih =>
      intro h
      have hp := usedF_pos r
      rcases List.mem_cons.1 h with rfl | h
      · simp only [usedF]; omega
      · have := ih h
        have hg : 0 ≤ costF g := by unfold costF; omega
        simp only [usedF]; omega
  have h2 := h1 _ hf
  have h3 := ok.us
  have h4 := ok.u1
  have h5 := ok.n1
  unfold costF at h2
  omega

/-- S may be made stronger on the way. -/
theorem heldMono {P : Program} {md : Region.Mode} {ops : Array Oper} {Q : Exit → Act → World → Prop} {S S' : World → Prop} (h : ∀ w, S' w → S w) : ∀ (fuel : Nat) (listed : Array Bool) (a : Act) (w : World), wpAnyH P md ops Q S' fuel listed a w → wpAnyH P md ops Q S fuel listed a w
  | 0, _, _, _, hh => hh
  | fuel + 1, _, _, _, hh => ⟨hh.1, fun i hi => wpOp_mono (fun a' w' h' => ⟨h _ h'.1, heldMono h fuel _ a' w' h'.2⟩) (hh.2 i hi)⟩

/-- between two rounds over the files. -/
structure PlF (fs : List Fw) (k : Nat) (z : Int) : Prop where
  z0 : 0 ≤ z
  z1 : z ≤ 40001
  kz : (k : Int) ≤ z
  cost : costW (fs.take k) ≤ 116 * z

/-- between two rounds over the script. -/
structure PlM (W : World) (d r : Nat) (wr : World) : Prop where
  both : ∃ F E D, Bq W F d E r D wr

set_option maxRecDepth 100000 in
set_option maxHeartbeats 4000000 in
theorem playsC_walk (cap : Int) (A : Option Addr) (n c : Nat) (fs : List Fw) (S : Option Addr) (ns cs : Nat) (ops : List Oq) (w : World) (hL : Lay w) (hE : Errs w) (hx : Rd w A (n * 3) (flatW fs))
    (hb : ∀ x ∈ fs, Rd w x.A x.bytes.length (by8 x.bytes)) (hz : ∀ x ∈ fs, x.name.size ≤ 140737488351232 ∧ x.bytes.length ≤ 140737488351232) (hn : n ≤ 9223372036854775807)
    (hs : Rd w S (ns * 8) (ops.flatMap Oq.cells)) (hol : ops.length = ns) (ho : ∀ x ∈ ops, OqOk w x) (hns : ns ≤ 9223372036854775807) :
    Calls Tryz.prog 8 #[.int .i64 cap, .slice A n c, .slice S ns cs] w fun e w' => e = .returned (.bool true) ∧ Mod Non w w' := by
  have hlen : fs.length = n := by have := hx.1; rw [flatW_len] at this; omega
  obtain ⟨x, hxx⟩ : ∃ x, cap % 1048576 = x := ⟨_, rfl⟩
  have hx0 : 0 ≤ x := by omega
  have hx1 : x < 1048576 := by omega
  have hax : bits .and .i64 cap 1048575 = x := by rw [and20c, hxx]
  have HLEN := Lib.hid hlen
  have HX := Lib.hid hx
  have HB := Lib.hid hb
  have HZ := Lib.hid hz
  have HL := Lib.hid hL
  have HER := Lib.hid hE
  have HS := Lib.hid hs
  have HO := Lib.hid ho
  have HAX := Lib.hid hax
  have HOL := Lib.hid hol
  clear hlen hx hb hz hL hE hs ho hol hax hxx
  go_enter Tryz.func8, Tryz.ntmps8
  go_wp2_with (go_at_call 9; refine (awakeC_any _ HL.out HER.out).mono ?_; rintro e w1 ⟨rfl, hm1⟩)
  have HM1 := Lib.hid hm1
  clear hm1
  go_loop [8, 9] (fun z i => ∃ (k : Nat) (q : Int), k ≤ n ∧ i = .int .i64 k ∧ z = .int .i64 q ∧ Hid (PlF fs k q)) (fun _ i => n - (intOf i).toNat)
  case atStart => exact ⟨0, 0, Nat.zero_le _, rfl, rfl, by omega, by omega, by omega, by simp [costW]⟩
  case round =>
    obtain ⟨k, q, hk, rfl, rfl, HP⟩ := hrel
    have hq0 := HP.out.z0
    have hq1 := HP.out.z1
    have hqk := HP.out.kz
    by_cases hlt : k < n
    · obtain ⟨b, o, y, rfl, hy, g0, g1, g2⟩ := (HX.out.mod0 HM1.out).fileW hlt
      have hyz := HZ.out y (List.mem_of_getElem? hy)
      obtain ⟨_, hyl⟩ := hyz
      have HSN : Hid (costW (fs.take (k + 1)) = costW (fs.take k) + (116 + (y.bytes.length : Int))) := by
        show _ = _
        rw [take_snoc' fs k y hy, costW_append]
        simp [costW]
      obtain ⟨m, hm⟩ : ∃ m, y.bytes.length = m := ⟨_, rfl⟩
      rw [hm] at g2 hyl HSN
      have i1 : (0 : Int) ≤ (k : Int) := by omega
      have i2 : (k : Int) < (n : Int) := by omega
      clear hy hm g0 g1
      by_cases hbig : 20000 < m
      · go_wp2_with fail
        go_ret
        exact ⟨rfl, HM1.out⟩
      · by_cases hqb : 20000 < q
        · go_wp2_with fail
          go_ret
          exact ⟨rfl, HM1.out⟩
        · go_wp2_with fail
          go_round
          case rel =>
            refine ⟨k + 1, q + m + 1, by omega, by go_num, rfl, by omega, by omega, by push_cast; omega, ?_⟩
            rw [HSN.out]
            have := HP.out.cost
            omega
          case measure => simp [intOf]; omega
    · obtain rfl : k = n := by omega
      have hcost : costW fs ≤ 4640116 := by
        have := HP.out.cost
        rw [List.take_of_length_le (by rw [HLEN.out]; omega)] at this
        omega
      have HC := Lib.hid hcost
      clear HP hcost
      have hax := HAX.out
      go_wp2_with fail
      clear hax
      obtain ⟨R, hR⟩ : ∃ R, loadP x fs = R := ⟨_, rfl⟩
      have hbo := both_any x A k c fs w1 (HL.out.mod0 HM1.out) hx0 (by omega) (HX.out.mod0 HM1.out) (fun y hy => (HB.out y hy).mod0 HM1.out) (fun y hy => (HZ.out y hy).1) (by have := HC.out; omega) (by omega)
      rw [hR] at hbo
      refine hbo.mono ?_
      clear hbo
      cases R with
      | none =>
        rintro e w2 ⟨rfl, hm2⟩
        have HM2 := Lib.hid (HM1.out.trans0 hm2)
        clear hm2 hR
        go_wp2_with fail
        go_ret
        exact ⟨rfl, HM2.out⟩
      | some D =>
        rintro e w2 ⟨d, F, r, E, rfl, hd, hr, hm2, hF, hEE⟩
        have hok := loadP_ok hR hx0 (by omega)
        have hs1 := HM1.out.size
        have hs2 := hm2.size
        have hbo : Bq w F d E r D w2 := ⟨hd, hr, hok, fun j hj => (hF j hj).2, fun j hj => by have := (hF j hj).1; omega, fun j hj => by have := hEE j hj; omega, HM1.out.trans0 hm2, HL.out.lt⟩
        have HPM : Hid (PlM w d r w2) := ⟨F, E, D, hbo⟩
        clear hbo hd hr hm2 hF hEE hok hR
        go_wp2_with fail
        go_loopw [12] (fun i wr => ∃ (q : Nat), q ≤ ns ∧ q ≤ 40 ∧ i = .int .i64 q ∧ Hid (PlM w d r wr)) (fun i _ => ns - (intOf i).toNat)
        case atStart => exact ⟨0, Nat.zero_le _, by omega, rfl, HPM.out⟩
        case round =>
          obtain ⟨q, hq, hq60, rfl, HPR⟩ := hrel
          rename World => wr
          by_cases hqn : q < ns ∧ q < 40
          · obtain ⟨hq1, hq2⟩ := hqn
            obtain ⟨bs, os, y, rfl, hy, gg⟩ := HS.out.oq HOL.out hq1
            have hym := List.mem_of_getElem? hy
            have hyo := HO.out y hym
            obtain ⟨F1, E1, D1, hb1⟩ := HPR.out.both
            obtain ⟨what, at_, X, Q, qn, cq, picks⟩ := y
            have hvw := hyo.vw
            have HXE : Hid (X = X) := rfl
            obtain ⟨X0, hX0⟩ : ∃ X0, X = X0 := ⟨_, rfl⟩
            obtain ⟨gen, next, log, seq, VA, vc, vms⟩ := X
            obtain ⟨vn, hvn⟩ : ∃ vn, vms.length = vn := ⟨_, rfl⟩
            have gc : w.cell? ⟨bs, os + q * 8, none⟩ = some (.int .i64 what) ∧ w.cell? ⟨bs, os + q * 8 + 1, none⟩ = some (.int .i64 at_) ∧ w.cell? ⟨bs, os + q * 8 + 2, none⟩ = some (.int .i64 gen) ∧ w.cell? ⟨bs, os + q * 8 + 3, none⟩ = some (.int .i64 next) ∧ w.cell? ⟨bs, os + q * 8 + 4, none⟩ = some (.int .i64 log) ∧ w.cell? ⟨bs, os + q * 8 + 5, none⟩ = some (.int .i64 seq) ∧ w.cell? ⟨bs, os + q * 8 + 6, none⟩ = some (.slice VA vn vc) ∧ w.cell? ⟨bs, os + q * 8 + 7, none⟩ = some (.slice Q qn cq) := by
              refine ⟨?_, ?_, ?_, ?_, ?_, ?_, ?_, ?_⟩
              · exact gg 0 _ (by omega) rfl
              · rw [Nat.add_assoc]; exact gg 1 _ (by omega) rfl
              · rw [Nat.add_assoc]; exact gg 2 _ (by omega) rfl
              · rw [Nat.add_assoc]; exact gg 3 _ (by omega) rfl
              · rw [Nat.add_assoc]; exact gg 4 _ (by omega) rfl
              · rw [Nat.add_assoc]; exact gg 5 _ (by omega) rfl
              · rw [Nat.add_assoc, ← hvn]; exact gg 6 _ (by omega) rfl
              · rw [Nat.add_assoc]; exact gg 7 _ (by omega) rfl
            have hbw : bs < w.heap.size := World.block_lt_of_cell? w _ gc.1
            have HGC := Lib.hid gc
            have HOY := Lib.hid hyo
            have HVN := Lib.hid hvn
            have HB1 := Lib.hid hb1
            have HCE : Hid (∀ W, Mod Non w W → W.cell? ⟨bs, os + q * 8, none⟩ = some (.int .i64 what) ∧ W.cell? ⟨bs, os + q * 8 + 1, none⟩ = some (.int .i64 at_) ∧ W.cell? ⟨bs, os + q * 8 + 2, none⟩ = some (.int .i64 gen) ∧ W.cell? ⟨bs, os + q * 8 + 3, none⟩ = some (.int .i64 next) ∧ W.cell? ⟨bs, os + q * 8 + 4, none⟩ = some (.int .i64 log) ∧ W.cell? ⟨bs, os + q * 8 + 5, none⟩ = some (.int .i64 seq) ∧ W.cell? ⟨bs, os + q * 8 + 6, none⟩ = some (.slice VA vn vc) ∧ W.cell? ⟨bs, os + q * 8 + 7, none⟩ = some (.slice Q qn cq)) := fun W hW => by
              obtain ⟨g0, g1, g2, g3, g4, g5, g6, g7⟩ := HGC.out
              exact ⟨hW.cell g0 fun h => h, hW.cell g1 fun h => h, hW.cell g2 fun h => h, hW.cell g3 fun h => h, hW.cell g4 fun h => h, hW.cell g5 fun h => h, hW.cell g6 fun h => h, hW.cell g7 fun h => h⟩
            have hce := HCE.out wr HB1.out.mod
            have hce6 := hce.2.2.2.2.2.2.1
            have i1 : (0 : Int) ≤ (q : Int) := by omega
            have i2 : (q : Int) < (ns : Int) := by omega
            have i3 : (q : Int) < 40 := by omega
            clear hy hym hyo hb1 gg gc hvw hvn hX0 HXE
            by_cases hv100 : 100 < vn
            · have hvd : decide (100 < (vn : Int)) = true := decide_eq_true (by omega)
              have hend : Hid (Mod Non w wr) := HB1.out.mod
              go_wp2_with fail
              go_ret
              exact ⟨rfl, hend.out⟩
            · have hvd : decide (100 < (vn : Int)) = false := decide_eq_false (by omega)
              have hstep : ∀ W, Bq w F1 d E1 r D1 W → Calls Tryz.prog 27 #[.pointer (some ⟨d, 0, none⟩), .pointer (some ⟨r, 0, none⟩), .agg #[.int .i64 what, .int .i64 at_, .int .i64 gen, .int .i64 next, .int .i64 log, .int .i64 seq, .slice VA vn vc, .slice Q qn cq]] W (SqPost w d r) := fun W hW => by
                have := stepC_any w F1 d E1 r D1 what at_ ⟨gen, next, log, seq, VA, vc, vms⟩ Q qn cq picks W hW HER.out HOY.out.vw (by simp only; rw [HVN.out]; omega) HOY.out.rd HOY.out.q1 HOY.out.at1
                simp only at this
                rw [HVN.out] at this
                exact this
              have HSTEP := Lib.hid hstep
              obtain ⟨nt, hnt⟩ : ∃ nt, foldN tabP at_ = nt := ⟨_, rfl⟩
              have hta : ∀ W, Lay W → Calls Tryz.prog 25 #[.int .i64 at_] W fun e w' => e = .returned (.string nt) ∧ Mod Non W w' := fun W hW => by
                have := table_any at_ W hW
                rw [hnt] at this
                exact this
              have htr : ∀ W, Calls Tryz.prog 31 #[.int .i64 at_] W fun e w' => e = .returned (.string nt) ∧ Mod Non W w' := fun W => by
                have := tableR_any at_ W
                rw [show foldN ⟨#[116, 97, 98, 47]⟩ at_ = nt from hnt] at this
                exact this
              have HTA := Lib.hid hta
              have HTR := Lib.hid htr
              clear hstep hnt hta htr
              go_wp2_with fail
              refine wp_region_held_drew (S := fun w' => w'.cell? ⟨bs, os + q * 8, none⟩ = some (.int .i64 what) ∧ w'.cell? ⟨bs, os + q * 8 + 1, none⟩ = some (.int .i64 at_) ∧ w'.cell? ⟨bs, os + q * 8 + 2, none⟩ = some (.int .i64 gen) ∧ w'.cell? ⟨bs, os + q * 8 + 3, none⟩ = some (.int .i64 next) ∧ w'.cell? ⟨bs, os + q * 8 + 4, none⟩ = some (.int .i64 log) ∧ w'.cell? ⟨bs, os + q * 8 + 5, none⟩ = some (.int .i64 seq) ∧ w'.cell? ⟨bs, os + q * 8 + 6, none⟩ = some (.slice VA vn vc) ∧ w'.cell? ⟨bs, os + q * 8 + 7, none⟩ = some (.slice Q qn cq)) (by kernel_rfl) ((HCE.out _ ((HB1.out.mod).drew))) (fun hHeld => ?_)
              refine wpAnyH_take (i := 0) (oi := { dst := some 75, op := Op.move (Operand.tmp 10), type := 24, pos := "law.go:108", after := #[], guard := none }) (v := ?_) rfl (by kernel_rfl) (by kernel_rfl) (by kernel_rfl) (fun _ _ _ h => h) (Or.inl ⟨by rfl, ?_⟩) hHeld ?_
              rotate_left
              · (intro w0 hS0; (try dsimp only at hS0); go_simp; try with_reducible rfl)
              try simp only [Act.put, List.setIfInBounds_toArray, List.set_cons_zero, List.set_cons_succ]
              refine wpAnyH_take (i := 1) (oi := { dst := some 76, op := Op.move (Operand.tmp 11), type := 51, pos := "law.go:108", after := #[], guard := none }) (v := ?_) rfl (by kernel_rfl) (by kernel_rfl) (by kernel_rfl) (fun _ _ _ h => h) (Or.inl ⟨by rfl, ?_⟩) hHeld ?_
              rotate_left
              · (intro w0 hS0; (try dsimp only at hS0); go_simp; try with_reducible rfl)
              try simp only [Act.put, List.setIfInBounds_toArray, List.set_cons_zero, List.set_cons_succ]
              refine wpAnyH_take (i := 2) (oi := { dst := some 77, op := Op.move (Operand.tmp 2), type := 66, pos := "law.go:108", after := #[], guard := none }) (v := ?_) rfl (by kernel_rfl) (by kernel_rfl) (by kernel_rfl) (fun _ _ _ h => h) (Or.inl ⟨by rfl, ?_⟩) hHeld ?_
              rotate_left
              · (intro w0 hS0; (try dsimp only at hS0); go_simp; try with_reducible rfl)
              try simp only [Act.put, List.setIfInBounds_toArray, List.set_cons_zero, List.set_cons_succ]
              refine wpAnyH_take (i := 3) (oi := { dst := some 78, op := Op.move (Operand.tmp 12), type := 3, pos := "law.go:108", after := #[], guard := none }) (v := ?_) rfl (by kernel_rfl) (by kernel_rfl) (by kernel_rfl) (fun _ _ _ h => h) (Or.inl ⟨by rfl, ?_⟩) hHeld ?_
              rotate_left
              · (intro w0 hS0; (try dsimp only at hS0); go_simp; try with_reducible rfl)
              try simp only [Act.put, List.setIfInBounds_toArray, List.set_cons_zero, List.set_cons_succ]
              refine wpAnyH_take (i := 4) (oi := { dst := some 79, op := Op.indexAddr 66 (Operand.tmp 77) (Operand.tmp 78), type := 0, pos := "law.go:108", after := #[{ on := 2, ground := Ground.data }, { on := 3, ground := Ground.data }], guard := none }) (v := ?_) rfl (by kernel_rfl) (by kernel_rfl) (by kernel_rfl) (fun _ _ _ h => h) (Or.inl ⟨by rfl, ?_⟩) hHeld ?_
              rotate_left
              · (intro w0 hS0; (try dsimp only at hS0); go_simp; try with_reducible rfl)
              try simp only [Act.put, List.setIfInBounds_toArray, List.set_cons_zero, List.set_cons_succ]
              refine wpAnyH_take (i := 5) (oi := { dst := some 80, op := Op.load 69 (Operand.tmp 79), type := 69, pos := "law.go:108", after := #[{ on := 4, ground := Ground.data }], guard := none }) (v := ?_) rfl (by kernel_rfl) (by kernel_rfl) (by kernel_rfl) (fun _ _ _ h => h) (Or.inl ⟨by rfl, ?_⟩) hHeld ?_
              rotate_left
              · (intro w0 hS0; (try dsimp only at hS0); go_simp; try with_reducible rfl)
              try simp only [Act.put, List.setIfInBounds_toArray, List.set_cons_zero, List.set_cons_succ]
              refine wpAnyH_ready (rs := [6]) (by kernel_rfl) (by simp) (AllReadyH.cons (o := { dst := some 81, op := Op.call { callee := Callee.value (Operand.func 27), args := #[Operand.tmp 75, Operand.tmp 76, Operand.tmp 80], argTypes := #[24, 51, 69] }, type := 4, pos := "law.go:108", after := #[{ on := 0, ground := Ground.data }, { on := 1, ground := Ground.data }, { on := 5, ground := Ground.data }], guard := none }) rfl (fun K hK => ?_) AllReadyH.nil)
              go_simp
              (with_reducible refine (HSTEP.out _ (HB1.out.mod0 ((Mod.refl Non wr).drew))).mono ?_)
              rintro e wa ⟨rfl, F2, E2, D2, hb2⟩
              have HB2 := Lib.hid hb2
              have HMa := Lib.hid hb2.mod
              have HDN : Hid (wa.cell? ⟨r, 2, none⟩ = some (.int .i64 D2.done)) := hb2.rk.done
              have HCF : Hid (∀ W, Mod Non wa W → (W.cell? ⟨bs, os + q * 8, none⟩ = some (.int .i64 what) ∧ W.cell? ⟨bs, os + q * 8 + 1, none⟩ = some (.int .i64 at_) ∧ W.cell? ⟨bs, os + q * 8 + 2, none⟩ = some (.int .i64 gen) ∧ W.cell? ⟨bs, os + q * 8 + 3, none⟩ = some (.int .i64 next) ∧ W.cell? ⟨bs, os + q * 8 + 4, none⟩ = some (.int .i64 log) ∧ W.cell? ⟨bs, os + q * 8 + 5, none⟩ = some (.int .i64 seq) ∧ W.cell? ⟨bs, os + q * 8 + 6, none⟩ = some (.slice VA vn vc) ∧ W.cell? ⟨bs, os + q * 8 + 7, none⟩ = some (.slice Q qn cq)) ∧ W.cell? ⟨r, 2, none⟩ = some (.int .i64 D2.done)) := fun W hW => ⟨HCE.out W (HMa.out.trans0 hW), hW.cell HDN.out fun h => h⟩
              have HMz := Lib.hid (Mod.refl Non wa)
              clear hb2
              refine hK.out _ _ (HCE.out _ HMa.out) (fun hHeld2 => ?_)
              clear hK K hHeld
              rename _ => hHeld
              try simp only [Act.put, List.setIfInBounds_toArray, List.set_cons_zero, List.set_cons_succ]
              refine heldMono (S' := fun w' => (w'.cell? ⟨bs, os + q * 8, none⟩ = some (.int .i64 what) ∧ w'.cell? ⟨bs, os + q * 8 + 1, none⟩ = some (.int .i64 at_) ∧ w'.cell? ⟨bs, os + q * 8 + 2, none⟩ = some (.int .i64 gen) ∧ w'.cell? ⟨bs, os + q * 8 + 3, none⟩ = some (.int .i64 next) ∧ w'.cell? ⟨bs, os + q * 8 + 4, none⟩ = some (.int .i64 log) ∧ w'.cell? ⟨bs, os + q * 8 + 5, none⟩ = some (.int .i64 seq) ∧ w'.cell? ⟨bs, os + q * 8 + 6, none⟩ = some (.slice VA vn vc) ∧ w'.cell? ⟨bs, os + q * 8 + 7, none⟩ = some (.slice Q qn cq)) ∧ w'.cell? ⟨r, 2, none⟩ = some (.int .i64 D2.done)) (fun _ h => h.1) _ _ _ _ ?_
              have hHeldB := HCF.out _ HMz.out
              clear hHeld
              rename _ => hHeld
              refine wpAnyH_take (i := 7) (oi := { dst := some 82, op := Op.unOp UnOp.not 4 (Operand.tmp 81), type := 4, pos := "law.go:108", after := #[{ on := 6, ground := Ground.data }], guard := none }) (v := ?_) rfl (by kernel_rfl) (by kernel_rfl) (by kernel_rfl) (fun _ _ _ h => h) (Or.inl ⟨by rfl, ?_⟩) hHeld ?_
              rotate_left
              · (intro w0 hS0; (try dsimp only at hS0); go_simp; try with_reducible rfl)
              try simp only [Act.put, List.setIfInBounds_toArray, List.set_cons_zero, List.set_cons_succ]
              refine wpAnyH_take (i := 8) (oi := { dst := some 83, op := Op.move (Operand.tmp 82), type := 4, pos := "law.go:108", after := #[{ on := 7, ground := Ground.data }, { on := 6, ground := Ground.chain }], guard := none }) (v := ?_) rfl (by kernel_rfl) (by kernel_rfl) (by kernel_rfl) (fun _ _ _ h => h) (Or.inl ⟨by rfl, ?_⟩) hHeld ?_
              rotate_left
              · (intro w0 hS0; (try dsimp only at hS0); go_simp; try with_reducible rfl)
              try simp only [Act.put, List.setIfInBounds_toArray, List.set_cons_zero, List.set_cons_succ]
              refine wpAnyH_take (i := 9) (oi := { dst := some 84, op := Op.move (Operand.tmp 10), type := 24, pos := "law.go:108", after := #[{ on := 8, ground := Ground.guard }], guard := some (8, false) }) (v := ?_) rfl (by kernel_rfl) (by kernel_rfl) (by kernel_rfl) (fun _ _ _ h => h) (Or.inl ⟨by rfl, ?_⟩) hHeld ?_
              rotate_left
              · (intro w0 hS0; (try dsimp only at hS0); go_simp; try with_reducible rfl)
              try simp only [Act.put, List.setIfInBounds_toArray, List.set_cons_zero, List.set_cons_succ]
              refine wpAnyH_take (i := 11) (oi := { dst := some 86, op := Op.move (Operand.tmp 11), type := 51, pos := "law.go:108", after := #[{ on := 8, ground := Ground.guard }], guard := some (8, false) }) (v := ?_) rfl (by kernel_rfl) (by kernel_rfl) (by kernel_rfl) (fun _ _ _ h => h) (Or.inl ⟨by rfl, ?_⟩) hHeld ?_
              rotate_left
              · (intro w0 hS0; (try dsimp only at hS0); go_simp; try with_reducible rfl)
              try simp only [Act.put, List.setIfInBounds_toArray, List.set_cons_zero, List.set_cons_succ]
              refine wpAnyH_take (i := 12) (oi := { dst := some 87, op := Op.nilCheck (Operand.tmp 86), type := 0, pos := "law.go:108", after := #[{ on := 11, ground := Ground.data }, { on := 8, ground := Ground.guard }], guard := some (8, false) }) (v := ?_) rfl (by kernel_rfl) (by kernel_rfl) (by kernel_rfl) (fun _ _ _ h => h) (Or.inl ⟨by rfl, ?_⟩) hHeld ?_
              rotate_left
              · (intro w0 hS0; (try dsimp only at hS0); go_simp; try with_reducible rfl)
              try simp only [Act.put, List.setIfInBounds_toArray, List.set_cons_zero, List.set_cons_succ]
              refine wpAnyH_take (i := 13) (oi := { dst := some 88, op := Op.fieldAddr 72 (Operand.tmp 87) 2, type := 0, pos := "law.go:108", after := #[{ on := 12, ground := Ground.data }, { on := 8, ground := Ground.guard }], guard := some (8, false) }) (v := ?_) rfl (by kernel_rfl) (by kernel_rfl) (by kernel_rfl) (fun _ _ _ h => h) (Or.inl ⟨by rfl, ?_⟩) hHeld ?_
              rotate_left
              · (intro w0 hS0; (try dsimp only at hS0); go_simp; try with_reducible rfl)
              try simp only [Act.put, List.setIfInBounds_toArray, List.set_cons_zero, List.set_cons_succ]
              refine wpAnyH_take (i := 14) (oi := { dst := some 89, op := Op.load 3 (Operand.tmp 88), type := 3, pos := "law.go:108", after := #[{ on := 13, ground := Ground.data }, { on := 8, ground := Ground.guard }], guard := some (8, false) }) (v := ?_) rfl (by kernel_rfl) (by kernel_rfl) (by kernel_rfl) (fun _ _ _ h => h) (Or.inl ⟨by rfl, ?_⟩) hHeld ?_
              rotate_left
              · (intro w0 hS0; (try dsimp only at hS0); go_simp; try with_reducible rfl)
              try simp only [Act.put, List.setIfInBounds_toArray, List.set_cons_zero, List.set_cons_succ]
              refine wpAnyH_ready (rs := [10]) (by kernel_rfl) (by simp) (AllReadyH.cons (o := { dst := some 85, op := Op.call { callee := Callee.value (Operand.func 26), args := #[Operand.tmp 84], argTypes := #[24] }, type := 3, pos := "law.go:108", after := #[{ on := 9, ground := Ground.data }, { on := 8, ground := Ground.chain }, { on := 8, ground := Ground.guard }], guard := some (8, false) }) rfl (fun K hK => ?_) AllReadyH.nil)
              go_simp
              refine (ops_any F2 d D2 _ (HB2.out.dk.mod0 HMz.out)).mono ?_
              rintro e wg ⟨rfl, rfl⟩
              refine hK.out _ _ (HCF.out _ HMz.out) (fun hHeld2 => ?_)
              clear hK K hHeld
              rename _ => hHeld
              try simp only [Act.put, List.setIfInBounds_toArray, List.set_cons_zero, List.set_cons_succ]
              refine wpAnyH_take (i := 15) (oi := { dst := some 90, op := Op.binOp BinOp.neq 3 (Operand.tmp 85) (Operand.tmp 89) 3, type := 4, pos := "law.go:108", after := #[{ on := 10, ground := Ground.data }, { on := 14, ground := Ground.data }, { on := 8, ground := Ground.guard }], guard := some (8, false) }) (v := ?_) rfl (by kernel_rfl) (by kernel_rfl) (by kernel_rfl) (fun _ _ _ h => h) (Or.inl ⟨by rfl, ?_⟩) hHeld ?_
              rotate_left
              · (intro w0 hS0; (try dsimp only at hS0); go_simp; try with_reducible rfl)
              try simp only [Act.put, List.setIfInBounds_toArray, List.set_cons_zero, List.set_cons_succ]
              refine wpAnyH_take (i := 16) (oi := { dst := some 91, op := Op.pick (Operand.tmp 83) (Operand.const (Value.bool true)) (Operand.tmp 90), type := 4, pos := "law.go:108", after := #[{ on := 8, ground := Ground.data }, { on := 15, ground := Ground.data }], guard := none }) (v := ?_) rfl (by kernel_rfl) (by kernel_rfl) (by kernel_rfl) (fun _ _ _ h => h) (Or.inl ⟨by rfl, ?_⟩) hHeld ?_
              rotate_left
              · (intro w0 hS0; (try dsimp only at hS0); go_simp; try with_reducible rfl)
              try simp only [Act.put, List.setIfInBounds_toArray, List.set_cons_zero, List.set_cons_succ]
              refine wpAnyH_take (i := 17) (oi := { dst := some 92, op := Op.move (Operand.tmp 91), type := 4, pos := "law.go:108", after := #[{ on := 16, ground := Ground.data }, { on := 10, ground := Ground.chain }], guard := none }) (v := ?_) rfl (by kernel_rfl) (by kernel_rfl) (by kernel_rfl) (fun _ _ _ h => h) (Or.inl ⟨by rfl, ?_⟩) hHeld ?_
              rotate_left
              · (intro w0 hS0; (try dsimp only at hS0); go_simp; try with_reducible rfl)
              try simp only [Act.put, List.setIfInBounds_toArray, List.set_cons_zero, List.set_cons_succ]
              refine wpAnyH_take (i := 18) (oi := { dst := some 93, op := Op.move (Operand.tmp 10), type := 24, pos := "law.go:108", after := #[{ on := 17, ground := Ground.guard }], guard := some (17, false) }) (v := ?_) rfl (by kernel_rfl) (by kernel_rfl) (by kernel_rfl) (fun _ _ _ h => h) (Or.inl ⟨by rfl, ?_⟩) hHeld ?_
              rotate_left
              · (intro w0 hS0; (try dsimp only at hS0); go_simp; try with_reducible rfl)
              try simp only [Act.put, List.setIfInBounds_toArray, List.set_cons_zero, List.set_cons_succ]
              refine wpAnyH_take (i := 21) (oi := { dst := some 96, op := Op.move (Operand.tmp 11), type := 51, pos := "law.go:108", after := #[{ on := 17, ground := Ground.guard }], guard := some (17, false) }) (v := ?_) rfl (by kernel_rfl) (by kernel_rfl) (by kernel_rfl) (fun _ _ _ h => h) (Or.inl ⟨by rfl, ?_⟩) hHeld ?_
              rotate_left
              · (intro w0 hS0; (try dsimp only at hS0); go_simp; try with_reducible rfl)
              try simp only [Act.put, List.setIfInBounds_toArray, List.set_cons_zero, List.set_cons_succ]
              refine wpAnyH_ready (rs := [19]) (by kernel_rfl) (by simp) (AllReadyH.cons (o := { dst := some 94, op := Op.call { callee := Callee.value (Operand.func 23), args := #[Operand.tmp 93], argTypes := #[24] }, type := 55, pos := "law.go:108", after := #[{ on := 18, ground := Ground.data }, { on := 17, ground := Ground.chain }, { on := 17, ground := Ground.guard }], guard := some (17, false) }) rfl (fun K hK => ?_) AllReadyH.nil)
              go_simp
              refine (dump_any F2 d D2 _ (HB2.out.dk.mod0 HMz.out) HB2.out.ok HB2.out.ok.nd).mono ?_
              rintro e wh ⟨Ah, nh, ch, xh, rfl, hSh, hrh, hnch, hcmh, hm2⟩
              have HSh := Lib.hid hSh
              have HRh := Lib.hid hrh
              have HMh := Lib.hid (HMz.out.trans0 hm2)
              have hnh : nh ≤ 100000000000 := by
                have h1 := files_len HB2.out.ok
                have h2 := hSh.perm.length_eq
                have h3 := hrh.1.1
                rw [flat3_len] at h3
                simp only [List.length_map] at h2
                omega
              clear hSh hrh hm2
              refine hK.out _ _ (HCF.out _ HMh.out) (fun hHeld2 => ?_)
              clear hK K hHeld
              rename _ => hHeld
              try simp only [Act.put, List.setIfInBounds_toArray, List.set_cons_zero, List.set_cons_succ]
              refine wpAnyH_ready (rs := [20]) (by kernel_rfl) (by simp) (AllReadyH.cons (o := { dst := some 95, op := Op.call { callee := Callee.value (Operand.func 29), args := #[Operand.tmp 94], argTypes := #[55] }, type := 50, pos := "law.go:108", after := #[{ on := 19, ground := Ground.data }, { on := 19, ground := Ground.chain }, { on := 17, ground := Ground.guard }], guard := some (17, false) }) rfl (fun K hK => ?_) AllReadyH.nil)
              go_simp
              refine (filesL_any Ah nh ch xh _ HRh.out.1 hnh).mono ?_
              rintro e wi ⟨Ai, ci, rfl, hri, hnci, hcmi, hm2⟩
              have HRi : Hid (RdF wi Ai nh xh) := ⟨hri, fun y hy => (HRh.out.2 y hy).mod0 hm2⟩
              have HMi := Lib.hid (HMh.out.trans0 hm2)
              clear hri hm2
              refine hK.out _ _ (HCF.out _ HMi.out) (fun hHeld2 => ?_)
              clear hK K hHeld
              rename _ => hHeld
              try simp only [Act.put, List.setIfInBounds_toArray, List.set_cons_zero, List.set_cons_succ]
              refine wpAnyH_ready (rs := [22]) (by kernel_rfl) (by simp) (AllReadyH.cons (o := { dst := some 97, op := Op.call { callee := Callee.value (Operand.func 30), args := #[Operand.tmp 96], argTypes := #[51] }, type := 50, pos := "law.go:108", after := #[{ on := 21, ground := Ground.data }, { on := 20, ground := Ground.chain }, { on := 17, ground := Ground.guard }], guard := some (17, false) }) rfl (fun K hK => ?_) AllReadyH.nil)
              go_simp
              refine (dumpR_any E2 r D2 _ (HB2.out.rk.mod0 HMi.out) (by have := files_len HB2.out.ok; omega) (fun f hf => bytes_le HB2.out.ok f hf)).mono ?_
              rintro e wj ⟨Aj, nj, cj, xj, rfl, hSj, hrj, hncj, hcmj, hm2⟩
              have HXX : Hid (xh.map (·.f) = xj.map (·.f)) := sorted_unique HSh.out.sort hSj.sort (HSh.out.perm.trans hSj.perm.symm)
              have hnj : nh = nj := by
                have h1 := hrj.1.1
                have h2 := HRi.out.1.1
                have h3 := congrArg List.length HXX.out
                rw [flat3_len] at h1 h2
                simp only [List.length_map] at h3
                omega
              subst hnj
              have HRj := Lib.hid hrj
              have HRi2 := Lib.hid (HRi.out.mod0 hm2)
              have HMj := Lib.hid (HMi.out.trans0 hm2)
              clear hSj hrj hm2
              refine hK.out _ _ (HCF.out _ HMj.out) (fun hHeld2 => ?_)
              clear hK K hHeld
              rename _ => hHeld
              try simp only [Act.put, List.setIfInBounds_toArray, List.set_cons_zero, List.set_cons_succ]
              refine wpAnyH_ready (rs := [23]) (by kernel_rfl) (by simp) (AllReadyH.cons (o := { dst := some 98, op := Op.call { callee := Callee.value (Operand.func 28), args := #[Operand.tmp 95, Operand.tmp 97], argTypes := #[50, 50] }, type := 4, pos := "law.go:108", after := #[{ on := 20, ground := Ground.data }, { on := 22, ground := Ground.data }, { on := 22, ground := Ground.chain }, { on := 17, ground := Ground.guard }], guard := some (17, false) }) rfl (fun K hK => ?_) AllReadyH.nil)
              go_simp
              refine (sameFiles_eq Ai Aj nh ci cj xh xj _ HRi2.out HRj.out HXX.out (by omega)).mono ?_
              rintro e wk ⟨rfl, qk, rfl⟩
              have HMk := Lib.hid (HMj.out.drewN qk)
              refine hK.out _ _ (HCF.out _ HMk.out) (fun hHeld2 => ?_)
              clear hK K hHeld
              rename _ => hHeld
              try simp only [Act.put, List.setIfInBounds_toArray, List.set_cons_zero, List.set_cons_succ]
              refine wpAnyH_take (i := 24) (oi := { dst := some 99, op := Op.unOp UnOp.not 4 (Operand.tmp 98), type := 4, pos := "law.go:108", after := #[{ on := 23, ground := Ground.data }, { on := 17, ground := Ground.guard }], guard := some (17, false) }) (v := ?_) rfl (by kernel_rfl) (by kernel_rfl) (by kernel_rfl) (fun _ _ _ h => h) (Or.inl ⟨by rfl, ?_⟩) hHeld ?_
              rotate_left
              · (intro w0 hS0; (try dsimp only at hS0); go_simp; try with_reducible rfl)
              try simp only [Act.put, List.setIfInBounds_toArray, List.set_cons_zero, List.set_cons_succ]
              refine wpAnyH_take (i := 25) (oi := { dst := some 100, op := Op.pick (Operand.tmp 92) (Operand.const (Value.bool true)) (Operand.tmp 99), type := 4, pos := "law.go:108", after := #[{ on := 17, ground := Ground.data }, { on := 24, ground := Ground.data }], guard := none }) (v := ?_) rfl (by kernel_rfl) (by kernel_rfl) (by kernel_rfl) (fun _ _ _ h => h) (Or.inl ⟨by rfl, ?_⟩) hHeld ?_
              rotate_left
              · (intro w0 hS0; (try dsimp only at hS0); go_simp; try with_reducible rfl)
              try simp only [Act.put, List.setIfInBounds_toArray, List.set_cons_zero, List.set_cons_succ]
              refine wpAnyH_take (i := 26) (oi := { dst := some 101, op := Op.move (Operand.tmp 100), type := 4, pos := "law.go:108", after := #[{ on := 25, ground := Ground.data }, { on := 23, ground := Ground.chain }], guard := none }) (v := ?_) rfl (by kernel_rfl) (by kernel_rfl) (by kernel_rfl) (fun _ _ _ h => h) (Or.inl ⟨by rfl, ?_⟩) hHeld ?_
              rotate_left
              · (intro w0 hS0; (try dsimp only at hS0); go_simp; try with_reducible rfl)
              try simp only [Act.put, List.setIfInBounds_toArray, List.set_cons_zero, List.set_cons_succ]
              refine wpAnyH_take (i := 27) (oi := { dst := some 102, op := Op.move (Operand.tmp 2), type := 66, pos := "law.go:108", after := #[{ on := 26, ground := Ground.guard }], guard := some (26, false) }) (v := ?_) rfl (by kernel_rfl) (by kernel_rfl) (by kernel_rfl) (fun _ _ _ h => h) (Or.inl ⟨by rfl, ?_⟩) hHeld ?_
              rotate_left
              · (intro w0 hS0; (try dsimp only at hS0); go_simp; try with_reducible rfl)
              try simp only [Act.put, List.setIfInBounds_toArray, List.set_cons_zero, List.set_cons_succ]
              refine wpAnyH_take (i := 28) (oi := { dst := some 103, op := Op.move (Operand.tmp 12), type := 3, pos := "law.go:108", after := #[{ on := 26, ground := Ground.guard }], guard := some (26, false) }) (v := ?_) rfl (by kernel_rfl) (by kernel_rfl) (by kernel_rfl) (fun _ _ _ h => h) (Or.inl ⟨by rfl, ?_⟩) hHeld ?_
              rotate_left
              · (intro w0 hS0; (try dsimp only at hS0); go_simp; try with_reducible rfl)
              try simp only [Act.put, List.setIfInBounds_toArray, List.set_cons_zero, List.set_cons_succ]
              refine wpAnyH_take (i := 29) (oi := { dst := some 104, op := Op.indexAddr 66 (Operand.tmp 102) (Operand.tmp 103), type := 0, pos := "law.go:108", after := #[{ on := 27, ground := Ground.data }, { on := 28, ground := Ground.data }, { on := 26, ground := Ground.guard }], guard := some (26, false) }) (v := ?_) rfl (by kernel_rfl) (by kernel_rfl) (by kernel_rfl) (fun _ _ _ h => h) (Or.inl ⟨by rfl, ?_⟩) hHeld ?_
              rotate_left
              · (intro w0 hS0; (try dsimp only at hS0); go_simp; try with_reducible rfl)
              try simp only [Act.put, List.setIfInBounds_toArray, List.set_cons_zero, List.set_cons_succ]
              refine wpAnyH_take (i := 30) (oi := { dst := some 105, op := Op.fieldAddr 69 (Operand.tmp 104) 1, type := 0, pos := "law.go:108", after := #[{ on := 29, ground := Ground.data }, { on := 26, ground := Ground.guard }], guard := some (26, false) }) (v := ?_) rfl (by kernel_rfl) (by kernel_rfl) (by kernel_rfl) (fun _ _ _ h => h) (Or.inl ⟨by rfl, ?_⟩) hHeld ?_
              rotate_left
              · (intro w0 hS0; (try dsimp only at hS0); go_simp; try with_reducible rfl)
              try simp only [Act.put, List.setIfInBounds_toArray, List.set_cons_zero, List.set_cons_succ]
              refine wpAnyH_take (i := 31) (oi := { dst := some 106, op := Op.load 3 (Operand.tmp 105), type := 3, pos := "law.go:108", after := #[{ on := 30, ground := Ground.data }, { on := 26, ground := Ground.guard }], guard := some (26, false) }) (v := ?_) rfl (by kernel_rfl) (by kernel_rfl) (by kernel_rfl) (fun _ _ _ h => h) (Or.inl ⟨by rfl, ?_⟩) hHeld ?_
              rotate_left
              · (intro w0 hS0; (try dsimp only at hS0); go_simp; try with_reducible rfl)
              try simp only [Act.put, List.setIfInBounds_toArray, List.set_cons_zero, List.set_cons_succ]
              refine wpAnyH_take (i := 33) (oi := { dst := some 108, op := Op.move (Operand.tmp 2), type := 66, pos := "law.go:108", after := #[{ on := 26, ground := Ground.guard }], guard := some (26, false) }) (v := ?_) rfl (by kernel_rfl) (by kernel_rfl) (by kernel_rfl) (fun _ _ _ h => h) (Or.inl ⟨by rfl, ?_⟩) hHeld ?_
              rotate_left
              · (intro w0 hS0; (try dsimp only at hS0); go_simp; try with_reducible rfl)
              try simp only [Act.put, List.setIfInBounds_toArray, List.set_cons_zero, List.set_cons_succ]
              refine wpAnyH_take (i := 34) (oi := { dst := some 109, op := Op.move (Operand.tmp 12), type := 3, pos := "law.go:108", after := #[{ on := 26, ground := Ground.guard }], guard := some (26, false) }) (v := ?_) rfl (by kernel_rfl) (by kernel_rfl) (by kernel_rfl) (fun _ _ _ h => h) (Or.inl ⟨by rfl, ?_⟩) hHeld ?_
              rotate_left
              · (intro w0 hS0; (try dsimp only at hS0); go_simp; try with_reducible rfl)
              try simp only [Act.put, List.setIfInBounds_toArray, List.set_cons_zero, List.set_cons_succ]
              refine wpAnyH_take (i := 35) (oi := { dst := some 110, op := Op.indexAddr 66 (Operand.tmp 108) (Operand.tmp 109), type := 0, pos := "law.go:108", after := #[{ on := 33, ground := Ground.data }, { on := 34, ground := Ground.data }, { on := 26, ground := Ground.guard }], guard := some (26, false) }) (v := ?_) rfl (by kernel_rfl) (by kernel_rfl) (by kernel_rfl) (fun _ _ _ h => h) (Or.inl ⟨by rfl, ?_⟩) hHeld ?_
              rotate_left
              · (intro w0 hS0; (try dsimp only at hS0); go_simp; try with_reducible rfl)
              try simp only [Act.put, List.setIfInBounds_toArray, List.set_cons_zero, List.set_cons_succ]
              refine wpAnyH_take (i := 36) (oi := { dst := some 111, op := Op.fieldAddr 69 (Operand.tmp 110) 1, type := 0, pos := "law.go:108", after := #[{ on := 35, ground := Ground.data }, { on := 26, ground := Ground.guard }], guard := some (26, false) }) (v := ?_) rfl (by kernel_rfl) (by kernel_rfl) (by kernel_rfl) (fun _ _ _ h => h) (Or.inl ⟨by rfl, ?_⟩) hHeld ?_
              rotate_left
              · (intro w0 hS0; (try dsimp only at hS0); go_simp; try with_reducible rfl)
              try simp only [Act.put, List.setIfInBounds_toArray, List.set_cons_zero, List.set_cons_succ]
              refine wpAnyH_take (i := 37) (oi := { dst := some 112, op := Op.load 3 (Operand.tmp 111), type := 3, pos := "law.go:108", after := #[{ on := 36, ground := Ground.data }, { on := 26, ground := Ground.guard }], guard := some (26, false) }) (v := ?_) rfl (by kernel_rfl) (by kernel_rfl) (by kernel_rfl) (fun _ _ _ h => h) (Or.inl ⟨by rfl, ?_⟩) hHeld ?_
              rotate_left
              · (intro w0 hS0; (try dsimp only at hS0); go_simp; try with_reducible rfl)
              try simp only [Act.put, List.setIfInBounds_toArray, List.set_cons_zero, List.set_cons_succ]
              refine wpAnyH_ready (rs := [32]) (by kernel_rfl) (by simp) (AllReadyH.cons (o := { dst := some 107, op := Op.call { callee := Callee.value (Operand.func 25), args := #[Operand.tmp 106], argTypes := #[3] }, type := 9, pos := "law.go:108", after := #[{ on := 31, ground := Ground.data }, { on := 26, ground := Ground.chain }, { on := 26, ground := Ground.guard }], guard := some (26, false) }) rfl (fun K hK => ?_) AllReadyH.nil)
              go_simp
              refine (HTA.out _ (HB2.out.dk.mod0 HMk.out).lay).mono ?_
              rintro e wl ⟨rfl, hm2⟩
              have HMl := Lib.hid (HMk.out.trans0 hm2)
              clear hm2
              refine hK.out _ _ (HCF.out _ HMl.out) (fun hHeld2 => ?_)
              clear hK K hHeld
              rename _ => hHeld
              try simp only [Act.put, List.setIfInBounds_toArray, List.set_cons_zero, List.set_cons_succ]
              refine wpAnyH_ready (rs := [38]) (by kernel_rfl) (by simp) (AllReadyH.cons (o := { dst := some 113, op := Op.call { callee := Callee.value (Operand.func 31), args := #[Operand.tmp 112], argTypes := #[3] }, type := 9, pos := "law.go:108", after := #[{ on := 37, ground := Ground.data }, { on := 32, ground := Ground.chain }, { on := 26, ground := Ground.guard }], guard := some (26, false) }) rfl (fun K hK => ?_) AllReadyH.nil)
              go_simp
              refine (HTR.out _).mono ?_
              rintro e wm ⟨rfl, hm2⟩
              have HMm := Lib.hid (HMl.out.trans0 hm2)
              clear hm2
              refine hK.out _ _ (HCF.out _ HMm.out) (fun hHeld2 => ?_)
              clear hK K hHeld
              rename _ => hHeld
              try simp only [Act.put, List.setIfInBounds_toArray, List.set_cons_zero, List.set_cons_succ]
              refine wpAnyH_take (i := 39) (oi := { dst := some 114, op := Op.binOp BinOp.neq 9 (Operand.tmp 107) (Operand.tmp 113) 9, type := 4, pos := "law.go:108", after := #[{ on := 32, ground := Ground.data }, { on := 38, ground := Ground.data }, { on := 26, ground := Ground.guard }], guard := some (26, false) }) (v := ?_) rfl (by kernel_rfl) (by kernel_rfl) (by kernel_rfl) (fun _ _ _ h => h) (Or.inl ⟨by rfl, ?_⟩) hHeld ?_
              rotate_left
              · (intro w0 hS0; (try dsimp only at hS0); go_simp; try with_reducible rfl)
              try simp only [Act.put, List.setIfInBounds_toArray, List.set_cons_zero, List.set_cons_succ]
              refine wpAnyH_take (i := 40) (oi := { dst := some 115, op := Op.pick (Operand.tmp 101) (Operand.const (Value.bool true)) (Operand.tmp 114), type := 4, pos := "law.go:108", after := #[{ on := 26, ground := Ground.data }, { on := 39, ground := Ground.data }], guard := none }) (v := ?_) rfl (by kernel_rfl) (by kernel_rfl) (by kernel_rfl) (fun _ _ _ h => h) (Or.inl ⟨by rfl, ?_⟩) hHeld ?_
              rotate_left
              · (intro w0 hS0; (try dsimp only at hS0); go_simp; try with_reducible rfl)
              try simp only [Act.put, List.setIfInBounds_toArray, List.set_cons_zero, List.set_cons_succ]
              refine wpAnyH_done (by kernel_rfl) ?_ _
              go_wp2_with fail
              go_roundw
              case rel => exact ⟨q + 1, by omega, by omega, by go_num, ⟨F2, E2, D2, HB2.out.mod0 HMm.out⟩⟩
              case measure => simp [intOf]; omega
          · have hend : Hid (Mod Non w wr) := by
              obtain ⟨_, _, _, hb1⟩ := HPR.out.both
              exact hb1.mod
            have hor : (q < ns ∧ q = 40) ∨ q = ns := by omega
            rcases hor with ⟨h1, rfl⟩ | rfl
            all_goals
              clear hqn
              go_wp2_with (first
                | (go_at_call 13; refine (loadC_nil _).mono ?_; rintro e wx ⟨rfl, hmx⟩; have HMX := Lib.hid (hend.out.trans0 hmx); clear hmx)
                | (go_at_call 11; refine (saveC_nil 1 0 0 0 none 0 0 _).mono ?_; rintro e wy ⟨rfl, hmy⟩; have HMY := Lib.hid (((HMX.out.alloc _)).trans0 hmy); clear hmy)
                | (go_at_call 20; refine (clean_nil ⟨0, 0, 0, 0, none, 0, []⟩ _).mono ?_; rintro e wz ⟨rfl, hmz⟩; have HMZ := Lib.hid (HMY.out.trans0 hmz); clear hmz))
              go_ret
              exact ⟨rfl, HMZ.out⟩

end Go.Proofs.YtdpjnpjmokncdaaGreatDoor
