/- The reference's disk: put, drop. -/
import Derived.Test.YtgdamcimpgapgaaGreatDoorM26
import Derived.Test.YtgdamcimpgapgaaGreatDoorM16
namespace Go.Proofs.YtgdamcimpgapgaaGreatDoor
open Go.RowKit

theorem bl_eq : ∀ (x y : List UInt8), Op.bytesLess x y = decide (x < y)
  | [], [] => by simp [Op.bytesLess]
  | _ :: _, [] => by simp [Op.bytesLess]
  | [], _ :: _ => by simp [Op.bytesLess]
  | a :: x, b :: y => by
    rw [Op.bytesLess, bl_eq x y]
    by_cases h1 : a < b
    · simp [h1, List.cons_lt_cons_iff]
    · by_cases h2 : a = b
      · subst h2; simp
      · simp [h1, h2, List.cons_lt_cons_iff]
theorem bl_name (x y : ByteArray) : Op.bytesLess x.toList y.toList = decide (x.data.toList < y.data.toList) := by rw [bl_eq, ByteArray.toList_eq, ByteArray.toList_eq]
theorem putS_le (g f : Fl) (r : List Fl) (h : keyF g ≤ keyF f) : putS g false (f :: r) = [g] ++ ((if f.name = g.name then [] else [f]) ++ putS g true r) := by
  rw [putS]; simp [h]
theorem putS_gt (g f : Fl) (r : List Fl) (h : ¬ keyF g ≤ keyF f) : putS g false (f :: r) = f :: putS g false r := by
  have hne : f.name ≠ g.name := fun e => h (by unfold keyF; rw [e]; exact List.le_refl _)
  rw [putS]; simp [h, hne]
theorem putS_tr (g f : Fl) (r : List Fl) : putS g true (f :: r) = (if f.name = g.name then [] else [f]) ++ putS g true r := by
  rw [putS]; simp
theorem Rd.of_own3 {w : World} {A : Option Addr} {n base : Nat} {e : TypeId} {c : Nat} {vs : List Value} (h : w.ownsRow base e 3 (.slice A n c) n vs) : Rd w A (n * 3) vs := by
  obtain ⟨hl, hr⟩ := h
  refine ⟨by omega, fun hn => ?_⟩
  rcases hr with ⟨hv, h0⟩ | ⟨g, cap, cur, hv, hg, hh, hnc, hcm, hsz, ht⟩
  · omega
  · injection hv with hA _ _
    subst hA
    refine ⟨g, 0, rfl, fun j u hu => ?_⟩
    rw [Nat.zero_add, cell_of_row w g j cur e (0, 0) hh]
    rw [← ht, List.getElem?_take] at hu
    split at hu
    · simpa using hu
    · cases hu
/-- between two rounds of put. -/
structure PtM (w0 : World) (x : Fc) (xs ys : List Fc) (k : Nat) (done : Bool) (wr : World) : Prop where
  mod : Mod Non w0 wr
  eq : putS x.f false (xs.map (·.f)) = ys.map (·.f) ++ putS x.f done ((xs.map (·.f)).drop k)
  mem : ∀ y ∈ ys, y = x ∨ y ∈ xs

theorem slice_blk (A : Option Addr) (n c : Nat) : (Value.slice A n c).ownBlock = blkOf A := by cases A <;> rfl
/-- the end of put and of drop: the new row in the place of the old one. -/
theorem put_end {x : Fc} {E B : Nat → Prop} {r : Nat} {D : Dk} {w w0 wr : World} {A : Option Addr} {n c : Nat} {xs ys : List Fc} {Av : Option Addr} {cv n' : Nat} (_hn' : ys.length = n') (h1 : RkAt w B r D A n c xs) (nd : (D.files.map (·.name)).Nodup)
    (hE : E r) (hBE : ∀ k, B k → E k) (hEl : ∀ k, E k → k < w.heap.size) (m0 : Mod Non w w0) (m1 : Mod Non w0 wr) (hb : Blk wr r 54 #[.int .i64 D.n, .slice A n c, .int .i64 D.done, .int .i64 D.left, .bool D.off])
    (hown : wr.ownsRow w0.heap.size 44 3 (.slice Av n' cv) n' (flat3 ys)) (hs : putS x.f false (xs.map (·.f)) = ys.map (·.f)) (hmem : ∀ y ∈ ys, y = x ∨ y ∈ xs)
    (hx : Rd w x.A x.f.bytes.length (by8 x.f.bytes)) (hx1 : x.f.bytes.length ≤ x.c) (hx2 : x.c ≤ 9223372036854775807) (hxr : ∀ b, blkOf x.A = some b → b ≠ r ∧ b < w.heap.size) (hr : r < w.heap.size) :
    ∃ E', RkIs (wr.setCell ⟨r, 1, none⟩ (.slice Av n' cv)) E' r { D with files := putF D.files x.f } ∧ Mod (fun k => k = r) w (wr.setCell ⟨r, 1, none⟩ (.slice Av n' cv)) ∧ ∀ k, E' k → E k ∨ blkOf x.A = some k ∨ w.heap.size ≤ k := by
  have hm : Mod (fun k => k = r) wr (wr.setCell ⟨r, 1, none⟩ (.slice Av n' cv)) := (Mod.refl (fun k => k = r) wr).set1 1 _
  have ho := own_slice hown
  obtain ⟨A', c', he, hc1, hc2⟩ := ho
  injection he with _ _ he
  subst he
  have hs0 := m0.size
  have hs1 := m1.size
  have hmx : maxLen = 9223372036854775807 := rfl
  have hbase := own_base hown
  have hrd := Rd.of_own3 hown
  have hsz : (wr.setCell ⟨r, 1, none⟩ (.slice Av n' cv)).heap.size = wr.heap.size := by simp [World.setCell]
  refine ⟨fun k => E k ∨ blkOf x.A = some k ∨ (w.heap.size ≤ k ∧ k < wr.heap.size), ⟨fun k => B k ∨ (blkOf x.A = some k) ∨ (w.heap.size ≤ k ∧ k < wr.heap.size), Av, n', cv, ys, ⟨hb.set_ 1 _, ?_, hc1, by omega, ?_, ?_, ?_, ?_⟩, .inl hE, fun k hk => hk.imp (hBE k) id, ?_⟩, ((m0.non.trans0 m1).trans hm fun k hk => .inl hk), fun k hk => hk.imp id fun h => h.imp id fun h => h.1⟩
  · refine hrd.mod hm fun _ b hbk e => ?_
    have := hbase b hbk
    omega
  · show SortedOf (putF D.files x.f) _
    rw [← hs]
    exact h1.fs.put nd x.f
  · intro y hy
    rcases hmem y hy with rfl | hy
    · exact ⟨((hx.mod0 m0).mod0 m1).mod hm fun _ b hbk e => (hxr b hbk).1 e, hx1, hx2, fun b hbk => .inr (.inl hbk)⟩
    · obtain ⟨a1, a2, a3, a4⟩ := h1.byt y hy
      exact ⟨((a1.mod0 m0).mod0 m1).mod hm fun _ b hbk e => h1.rB (e ▸ a4 b hbk), a2, a3, fun b hbk => .inl (a4 b hbk)⟩
  · intro b hbk
    have h3 := hbase b hbk
    refine .inr (.inr ⟨by omega, ?_⟩)
    exact (hown.lt b (by rw [slice_blk]; exact hbk)).2
  · rintro (h | h | h)
    · exact h1.rB h
    · exact (hxr _ h).1 rfl
    · omega
  · intro k hk
    rw [hsz]
    rcases hk with hk | hk | hk
    · have := hEl k hk; omega
    · have := (hxr k hk).2; omega
    · exact hk.2

set_option maxRecDepth 100000 in
set_option maxHeartbeats 2000000 in
theorem put_any (x : Fc) (E : Nat → Prop) (r : Nat) (D : Dk) (w : World) (h : RkIs w E r D) (nd : (D.files.map (·.name)).Nodup) (hl : D.files.length ≤ 100000000000)
    (hx : Rd w x.A x.f.bytes.length (by8 x.f.bytes)) (hx1 : x.f.bytes.length ≤ x.c) (hx2 : x.c ≤ 9223372036854775807) (hxr : ∀ b, blkOf x.A = some b → b ≠ r ∧ b < w.heap.size) :
    Calls Tryz.prog 84 #[.pointer (some ⟨r, 0, none⟩), .agg #[.string x.f.name, .int .i64 (x.f.safe : Int), .slice x.A x.f.bytes.length x.c]] w fun e w' =>
      e = .returned (.tuple #[]) ∧ ∃ E', RkIs w' E' r { D with files := putF D.files x.f } ∧ Mod (fun k => k = r) w w' ∧ ∀ k, E' k → E k ∨ blkOf x.A = some k ∨ w.heap.size ≤ k := by
  obtain ⟨B, A, n, c, xs, h1, hE, hBE, hEl⟩ := h
  have hlen : xs.length = D.files.length := by have := h1.fs.perm.length_eq; simpa using this
  have hn := h1.len
  have hnc := h1.nc
  have hcm := h1.cm
  have hrl := h1.blk.lt
  obtain ⟨xf, xA, xc⟩ := x
  obtain ⟨xn, xs0, xb⟩ := xf
  simp only at hx hx1 hx2 hxr
  obtain ⟨w0, hw0⟩ : ∃ w0, w.alloc (.cells #[.string xn, .int .i64 (xs0 : Int), .slice xA xb.length xc] 44) = w0 := ⟨_, rfl⟩
  have hm0 : Mod Non w w0 := by rw [← hw0]; exact (Mod.refl Non w).alloc _
  have hsz : w0.heap.size = w.heap.size + 1 := by rw [← hw0]; simp
  have hbx : Blk w0 w.heap.size 44 #[.string xn, .int .i64 (xs0 : Int), .slice xA xb.length xc] := by rw [← hw0]; exact Blk.new w _ _
  have HBX := Lib.hid hbx
  have HR0 := Lib.hid (h1.mod0 hm0)
  have HW0 := Lib.hid hw0
  have HM0 := Lib.hid hm0
  have hn2 : n ≤ 100000000000 := by omega
  have HN := Lib.hid hn
  have HH1 := Lib.hid h1
  have HHX := Lib.hid hx
  clear hlen hn hm0 hbx h1 hx
  go_enter Tryz.func84, Tryz.ntmps84
  go_wp2_with fail
  clear hw0
  go_loopw [4, 5, 6] (fun v dn i wr => ∃ (k : Nat) (ys : List Fc) (done : Bool), k ≤ n ∧ ys.length ≤ k + done.toNat ∧ i = .int .i64 k ∧ dn = .bool done ∧ wr.ownsRow w0.heap.size 44 3 v ys.length (flat3 ys) ∧ Hid (PtM w0 ⟨⟨xn, xs0, xb⟩, xA, xc⟩ xs ys k done wr)) (fun _ _ i _ => n - (intOf i).toNat)
  case atStart => exact ⟨0, [], false, Nat.zero_le _, by simp, rfl, rfl, World.ownsRow_nil _ _ _ _, ⟨Mod.refl _ _, by simp, by simp⟩⟩
  case round =>
    obtain ⟨k, ys, done, hk, hyl, rfl, rfl, hown, HP⟩ := hrel
    obtain ⟨Av, cv, rfl, hcv, hcv2⟩ := own_slice hown
    have hrw : w0.heap.size ≤ wr.heap.size := HP.out.mod.size
    have HOWN := Lib.hid hown
    have hrow := hown.lt
    clear hown
    by_cases hlt : k < n
    · obtain ⟨b, o, y, rfl, hy, g0, g1, g2⟩ := HR0.out.row.file hlt
      have HY := Lib.hid hy
      obtain ⟨⟨yn, ysf, yb⟩, yA, yc⟩ := y
      simp only at g0 g1 g2
      have G0 := Lib.hid g0
      have G1 := Lib.hid g1
      have G2 := Lib.hid g2
      have i1 : (0 : Int) ≤ (k : Int) := by omega
      have i2 : (k : Int) < (n : Int) := by omega
      clear hy g0 g1 g2
      have HDR : Hid ((xs.map (·.f)).drop k = ⟨yn, ysf, yb⟩ :: (xs.map (·.f)).drop (k + 1)) := by
        show _ = _
        have : (xs.map (·.f))[k]? = some ⟨yn, ysf, yb⟩ := by rw [List.getElem?_map, HY.out]; rfl
        obtain ⟨h1, h2⟩ := List.getElem?_eq_some_iff.1 this
        rw [List.drop_eq_getElem_cons h1, h2]
      have c1x : wr.cell? ⟨r, 1, none⟩ = some (.slice (some ⟨b, o, none⟩) n c) := (HR0.out.mod0 HP.out.mod).blk.cell 1
      have b0x : wr.cell? ⟨w.heap.size, 0, none⟩ = some (.string xn) := (HBX.out.mod HP.out.mod fun h => h).cell 0
      have b1x : wr.cell? ⟨w.heap.size, 1, none⟩ = some (.int .i64 (xs0 : Int)) := (HBX.out.mod HP.out.mod fun h => h).cell 1
      have b2x : wr.cell? ⟨w.heap.size, 2, none⟩ = some (.slice xA xb.length xc) := (HBX.out.mod HP.out.mod fun h => h).cell 2
      have g0x : wr.cell? ⟨b, o + k * 3, none⟩ = some (.string yn) := HP.out.mod.cell G0.out (fun h => h)
      have g1x : wr.cell? ⟨b, o + k * 3 + 1, none⟩ = some (.int .i64 (ysf : Int)) := HP.out.mod.cell G1.out (fun h => h)
      have g2x : wr.cell? ⟨b, o + k * 3 + 2, none⟩ = some (.slice yA yb.length yc) := HP.out.mod.cell G2.out (fun h => h)
      cases done with
      | false =>
        simp only [Bool.toNat_false, Nat.add_zero] at hyl
        by_cases hle : keyF ⟨xn, xs0, xb⟩ ≤ keyF ⟨yn, ysf, yb⟩
        · have hbl : Op.bytesLess yn.toList xn.toList = false := by rw [bl_name]; exact decide_eq_false (List.not_lt.2 hle)
          have HLE := Lib.hid hle
          clear hle
          go_wp2_with fail
          go_quiet (fail)
          clear hbl
          go_wp2_with (at_builtin
                       refine wpList_appF _ rfl (.tmp 31) (.tmp 33) rfl w0.heap.size (.slice Av ys.length cv) ys.length ys rfl ((own_mod (S := Non) (w' := wr.drewN nq) HOWN.out ((Mod.refl Non wr).drewN nq) (fun _ _ h => h)).alloc _) _ 1 1 [⟨⟨xn, xs0, xb⟩, xA, xc⟩] rfl (one_file _ _ ⟨⟨xn, xs0, xb⟩, xA, xc⟩) (by simp; omega) (by simp; omega) ?_
                       intro pA pc pw phc phcm pown pg pat)
          have MP : Hid (Mod Non w0 pw) := ((HP.out.mod.drewN nq).alloc _).trans (Mod.of_grown (S := fun g => (Value.slice Av ys.length cv).ownBlock = some g) pg fun _ h => h) fun g hg => .inr (hrow g hg).1
          have hpl : pw.heap.size ≥ w0.heap.size := MP.out.size
          have POWN := Lib.hid pown
          have prow := pown.lt
          clear pown pg pat c1x b0x b1x b2x g0x g1x g2x
          have c1x : pw.cell? ⟨r, 1, none⟩ = some (.slice (some ⟨b, o, none⟩) n c) := (HR0.out.mod0 MP.out).blk.cell 1
          have b0x : pw.cell? ⟨w.heap.size, 0, none⟩ = some (.string xn) := (HBX.out.mod MP.out fun h => h).cell 0
          have b1x : pw.cell? ⟨w.heap.size, 1, none⟩ = some (.int .i64 (xs0 : Int)) := (HBX.out.mod MP.out fun h => h).cell 1
          have b2x : pw.cell? ⟨w.heap.size, 2, none⟩ = some (.slice xA xb.length xc) := (HBX.out.mod MP.out fun h => h).cell 2
          have g0x : pw.cell? ⟨b, o + k * 3, none⟩ = some (.string yn) := MP.out.cell G0.out (fun h => h)
          have g1x : pw.cell? ⟨b, o + k * 3 + 1, none⟩ = some (.int .i64 (ysf : Int)) := MP.out.cell G1.out (fun h => h)
          have g2x : pw.cell? ⟨b, o + k * 3 + 2, none⟩ = some (.slice yA yb.length yc) := MP.out.cell G2.out (fun h => h)
          by_cases he : yn = xn
          · have hs : (yn.toList == xn.toList) = true := by rw [he]; simp
            have HE := Lib.hid he
            clear he
            go_wp2_with fail
            go_quiet (fail)
            go_wp2_with fail
            go_roundw
            case rel =>
              refine ⟨k + 1, ys ++ [⟨⟨xn, xs0, xb⟩, xA, xc⟩], true, by omega, by simp; omega, by go_num, rfl, by rw [List.length_append]; exact own_mod (S := Non) POWN.out ((Mod.refl Non pw).drewN _) (fun _ _ h => h), ⟨MP.out.drewN _, ?_, ?_⟩⟩
              · have e := HP.out.eq
                rw [HDR.out, putS_le _ _ _ HLE.out, if_pos HE.out] at e
                rw [e]; simp
              · intro z hz
                have hz' : z ∈ ys ∨ z = ⟨⟨xn, xs0, xb⟩, xA, xc⟩ ∨ z = ⟨⟨yn, ysf, yb⟩, yA, yc⟩ := by (try simp at hz); rcases hz with h | h <;> simp [h]
                rcases hz' with hz | hz | hz
                · exact HP.out.mem z hz
                · exact .inl hz
                · rw [hz]; exact .inr (List.mem_of_getElem? HY.out)
            case measure => simp [intOf]; omega
          · have hs : (yn.toList == xn.toList) = false := beq_eq_false_iff_ne.2 fun e => he (keyF_inj (by rwa [ByteArray.toList_eq, ByteArray.toList_eq] at e))
            have HE := Lib.hid he
            clear he
            go_wp2_with fail
            go_quiet (fail)
            go_wp2_with (at_builtin
                         refine wpList_appF _ rfl (.tmp 46) (.tmp 54) rfl w0.heap.size (.slice pA (ys.length + 1) pc) (ys.length + 1) (ys ++ [⟨⟨xn, xs0, xb⟩, xA, xc⟩]) rfl ((own_mod (S := Non) POWN.out ((Mod.refl Non pw).drewN _) (fun _ _ h => h)).alloc _) _ 1 1 [⟨⟨yn, ysf, yb⟩, yA, yc⟩] rfl (one_file _ _ ⟨⟨yn, ysf, yb⟩, yA, yc⟩) (by simp; omega) (by simp; omega) ?_
                         intro qA qc qw qhc qhcm qown qg qat)
            have MQ : Hid (Mod Non w0 qw) := ((MP.out.drewN _).alloc _).trans (Mod.of_grown (S := fun g => (Value.slice pA (ys.length + 1) pc).ownBlock = some g) qg fun _ h => h) fun g hg => .inr (prow g hg).1
            clear qg qat
            go_roundw
            case rel =>
              refine ⟨k + 1, ys ++ [⟨⟨xn, xs0, xb⟩, xA, xc⟩] ++ [⟨⟨yn, ysf, yb⟩, yA, yc⟩], true, by omega, by simp; omega, by go_num, rfl, by simpa using qown, ⟨MQ.out, ?_, ?_⟩⟩
              · have e := HP.out.eq
                rw [HDR.out, putS_le _ _ _ HLE.out, if_neg HE.out] at e
                rw [e]; simp
              · intro z hz
                have hz' : z ∈ ys ∨ z = ⟨⟨xn, xs0, xb⟩, xA, xc⟩ ∨ z = ⟨⟨yn, ysf, yb⟩, yA, yc⟩ := by (try simp at hz); rcases hz with h | h | h <;> simp [h]
                rcases hz' with hz | hz | hz
                · exact HP.out.mem z hz
                · exact .inl hz
                · rw [hz]; exact .inr (List.mem_of_getElem? HY.out)
            case measure => simp [intOf]; omega
        · have hbl : Op.bytesLess yn.toList xn.toList = true := by rw [bl_name]; exact decide_eq_true (List.not_le.1 hle)
          have hs : (yn.toList == xn.toList) = false := beq_eq_false_iff_ne.2 fun e => hle (by show xn.data.toList ≤ yn.data.toList; rw [← ByteArray.toList_eq, ← ByteArray.toList_eq, e]; exact List.le_refl _)
          have HLE := Lib.hid hle
          clear hle
          go_wp2_with fail
          go_quiet (fail)
          clear hbl
          go_wp2_with fail
          go_quiet (fail)
          go_wp2_with (at_builtin
                       refine wpList_appF _ rfl (.tmp 46) (.tmp 54) rfl w0.heap.size (.slice Av ys.length cv) ys.length ys rfl ((own_mod (S := Non) HOWN.out ((Mod.refl Non wr).drewN _) (fun _ _ h => h)).alloc _) _ 1 1 [⟨⟨yn, ysf, yb⟩, yA, yc⟩] rfl (one_file _ _ ⟨⟨yn, ysf, yb⟩, yA, yc⟩) (by simp; omega) (by simp; omega) ?_
                       intro qA qc qw qhc qhcm qown qg qat)
          have MQ : Hid (Mod Non w0 qw) := ((HP.out.mod.drewN _).alloc _).trans (Mod.of_grown (S := fun g => (Value.slice Av ys.length cv).ownBlock = some g) qg fun _ h => h) fun g hg => .inr (hrow g hg).1
          clear qg qat
          go_roundw
          case rel =>
            refine ⟨k + 1, ys ++ [⟨⟨yn, ysf, yb⟩, yA, yc⟩], false, by omega, by simp; omega, by go_num, rfl, by simpa using qown, ⟨MQ.out, ?_, ?_⟩⟩
            · have e := HP.out.eq
              rw [HDR.out, putS_gt _ _ _ HLE.out] at e
              rw [e]; simp
            · intro z hz
              have hz' : z ∈ ys ∨ z = ⟨⟨xn, xs0, xb⟩, xA, xc⟩ ∨ z = ⟨⟨yn, ysf, yb⟩, yA, yc⟩ := by (try simp at hz); rcases hz with h | h <;> simp [h]
              rcases hz' with hz | hz | hz
              · exact HP.out.mem z hz
              · exact .inl hz
              · rw [hz]; exact .inr (List.mem_of_getElem? HY.out)
          case measure => simp [intOf]; omega
      | true =>
        simp only [Bool.toNat_true] at hyl
        go_wp2_with fail
        go_quiet (fail)
        by_cases he : yn = xn
        · have hs : (yn.toList == xn.toList) = true := by rw [he]; simp
          have HE := Lib.hid he
          clear he
          go_wp2_with fail
          go_quiet (fail)
          go_wp2_with fail
          go_roundw
          case rel =>
            refine ⟨k + 1, ys, true, by omega, by simp; omega, by go_num, rfl, own_mod (S := Non) HOWN.out ((Mod.refl Non wr).drewN _) (fun _ _ h => h), ⟨HP.out.mod.drewN _, ?_, ?_⟩⟩
            · have e := HP.out.eq
              rw [HDR.out, putS_tr, if_pos HE.out] at e
              rw [e]; simp
            · intro z hz
              have hz' : z ∈ ys ∨ z = ⟨⟨xn, xs0, xb⟩, xA, xc⟩ ∨ z = ⟨⟨yn, ysf, yb⟩, yA, yc⟩ := by (try simp at hz); exact .inl hz
              rcases hz' with hz | hz | hz
              · exact HP.out.mem z hz
              · exact .inl hz
              · rw [hz]; exact .inr (List.mem_of_getElem? HY.out)
          case measure => simp [intOf]; omega
        · have hs : (yn.toList == xn.toList) = false := beq_eq_false_iff_ne.2 fun e => he (keyF_inj (by rwa [ByteArray.toList_eq, ByteArray.toList_eq] at e))
          have HE := Lib.hid he
          clear he
          go_wp2_with fail
          go_quiet (fail)
          go_wp2_with (at_builtin
                       refine wpList_appF _ rfl (.tmp 46) (.tmp 54) rfl w0.heap.size (.slice Av ys.length cv) ys.length ys rfl ((own_mod (S := Non) HOWN.out ((Mod.refl Non wr).drewN _) (fun _ _ h => h)).alloc _) _ 1 1 [⟨⟨yn, ysf, yb⟩, yA, yc⟩] rfl (one_file _ _ ⟨⟨yn, ysf, yb⟩, yA, yc⟩) (by simp; omega) (by simp; omega) ?_
                       intro qA qc qw qhc qhcm qown qg qat)
          have MQ : Hid (Mod Non w0 qw) := ((HP.out.mod.drewN _).alloc _).trans (Mod.of_grown (S := fun g => (Value.slice Av ys.length cv).ownBlock = some g) qg fun _ h => h) fun g hg => .inr (hrow g hg).1
          clear qg qat
          go_roundw
          case rel =>
            refine ⟨k + 1, ys ++ [⟨⟨yn, ysf, yb⟩, yA, yc⟩], true, by omega, by simp; omega, by go_num, rfl, by simpa using qown, ⟨MQ.out, ?_, ?_⟩⟩
            · have e := HP.out.eq
              rw [HDR.out, putS_tr, if_neg HE.out] at e
              rw [e]; simp
            · intro z hz
              have hz' : z ∈ ys ∨ z = ⟨⟨xn, xs0, xb⟩, xA, xc⟩ ∨ z = ⟨⟨yn, ysf, yb⟩, yA, yc⟩ := by (try simp at hz); rcases hz with h | h <;> simp [h]
              rcases hz' with hz | hz | hz
              · exact HP.out.mem z hz
              · exact .inl hz
              · rw [hz]; exact .inr (List.mem_of_getElem? HY.out)
          case measure => simp [intOf]; omega
    · obtain rfl : k = n := by omega
      have hdrop : (xs.map (·.f)).drop k = [] := List.drop_eq_nil_of_le (by simp [HN.out])
      have HEQ : Hid (putS ⟨xn, xs0, xb⟩ false (xs.map (·.f)) = ys.map (·.f) ++ if done then [] else [⟨xn, xs0, xb⟩]) := by
        show _ = _
        rw [HP.out.eq, hdrop]
        rfl
      clear hdrop
      cases done with
      | true =>
        simp only [Bool.toNat_true] at hyl
        have hblk := (HR0.out.mod0 HP.out.mod).blk
        have c1x : wr.cell? ⟨r, 1, none⟩ = some (.slice A k c) := hblk.cell 1
        have f1x := hblk.frozen 1
        have HBLK := Lib.hid hblk
        clear hblk
        go_wp2_with fail
        go_end0
        refine ⟨rfl, put_end (x := ⟨⟨xn, xs0, xb⟩, xA, xc⟩) rfl HH1.out nd hE hBE hEl HM0.out HP.out.mod HBLK.out HOWN.out ?_ ?_ HHX.out hx1 hx2 hxr hrl⟩
        · rw [HEQ.out]; simp
        · exact fun z hz => HP.out.mem z hz
      | false =>
        simp only [Bool.toNat_false, Nat.add_zero] at hyl
        have hblk := (HR0.out.mod0 HP.out.mod).blk
        have c1x : wr.cell? ⟨r, 1, none⟩ = some (.slice A k c) := hblk.cell 1
        have b0r : wr.cell? ⟨w.heap.size, 0, none⟩ = some (.string xn) := (HBX.out.mod HP.out.mod fun h => h).cell 0
        have b1r : wr.cell? ⟨w.heap.size, 1, none⟩ = some (.int .i64 (xs0 : Int)) := (HBX.out.mod HP.out.mod fun h => h).cell 1
        have b2r : wr.cell? ⟨w.heap.size, 2, none⟩ = some (.slice xA xb.length xc) := (HBX.out.mod HP.out.mod fun h => h).cell 2
        clear hblk
        go_wp2_with (at_builtin
                     refine wpList_appF _ rfl (.tmp 58) (.tmp 60) rfl w0.heap.size (.slice Av ys.length cv) ys.length ys rfl (HOWN.out.alloc _) _ 1 1 [⟨⟨xn, xs0, xb⟩, xA, xc⟩] rfl (one_file _ _ ⟨⟨xn, xs0, xb⟩, xA, xc⟩) (by omega) (by simp; omega) ?_
                     intro pA pc pw phc phcm pown pg pat
                     have MP : Hid (Mod Non w0 pw) := (HP.out.mod.alloc _).trans (Mod.of_grown (S := fun g => (Value.slice Av ys.length cv).ownBlock = some g) pg fun _ h => h) fun g hg => .inr (hrow g hg).1
                     have hblk2 := (HR0.out.mod0 MP.out).blk
                     have c1p : pw.cell? ⟨r, 1, none⟩ = some (.slice A k c) := hblk2.cell 1
                     have f1p := hblk2.frozen 1
                     have HBLK := Lib.hid hblk2
                     have POWN := Lib.hid pown
                     clear hblk2 pg pat pown c1x b0r b1r b2r)
        go_end0
        refine ⟨rfl, put_end (x := ⟨⟨xn, xs0, xb⟩, xA, xc⟩) (ys := ys ++ [⟨⟨xn, xs0, xb⟩, xA, xc⟩]) (n' := ys.length + 1) (by simp) HH1.out nd hE hBE hEl HM0.out MP.out HBLK.out POWN.out ?_ ?_ HHX.out hx1 hx2 hxr hrl⟩
        · rw [HEQ.out]; simp
        · intro z hz
          rcases List.mem_append.1 hz with hz | hz
          · exact HP.out.mem z hz
          · simp only [List.mem_singleton] at hz
            exact .inl hz

end Go.Proofs.YtgdamcimpgapgaaGreatDoor

/- The reference's disk: drop. -/
namespace Go.Proofs.YtgdamcimpgapgaaGreatDoor
open Go.RowKit

/-- the end of drop: the new row in the place of the old one. -/
theorem drop_end {k : ByteArray} {E B : Nat → Prop} {r : Nat} {D : Dk} {w wr : World} {A : Option Addr} {n c : Nat} {xs ys : List Fc} {Av : Option Addr} {cv n' : Nat} (h1 : RkAt w B r D A n c xs) (nd : (D.files.map (·.name)).Nodup)
    (hE : E r) (hBE : ∀ k, B k → E k) (hEl : ∀ k, E k → k < w.heap.size) (m1 : Mod Non w wr) (hb : Blk wr r 54 #[.int .i64 D.n, .slice A n c, .int .i64 D.done, .int .i64 D.left, .bool D.off])
    (hown : wr.ownsRow w.heap.size 44 3 (.slice Av n' cv) n' (flat3 ys)) (hs : dropS k (xs.map (·.f)) = ys.map (·.f)) (hmem : ∀ y ∈ ys, y ∈ xs) (hr : r < w.heap.size) :
    ∃ E', RkIs (wr.setCell ⟨r, 1, none⟩ (.slice Av n' cv)) E' r { D with files := delF D.files k } ∧ Mod (fun k => k = r) w (wr.setCell ⟨r, 1, none⟩ (.slice Av n' cv)) ∧ ∀ k, E' k → E k ∨ w.heap.size ≤ k := by
  have hm : Mod (fun k => k = r) wr (wr.setCell ⟨r, 1, none⟩ (.slice Av n' cv)) := (Mod.refl (fun k => k = r) wr).set1 1 _
  have ho := own_slice hown
  obtain ⟨A', c', he, hc1, hc2⟩ := ho
  injection he with _ _ he
  subst he
  have hs1 := m1.size
  have hmx : maxLen = 9223372036854775807 := rfl
  have hbase := own_base hown
  have hrd := Rd.of_own3 hown
  have hsz : (wr.setCell ⟨r, 1, none⟩ (.slice Av n' cv)).heap.size = wr.heap.size := by simp [World.setCell]
  refine ⟨fun k => E k ∨ (w.heap.size ≤ k ∧ k < wr.heap.size), ⟨fun k => B k ∨ (w.heap.size ≤ k ∧ k < wr.heap.size), Av, n', cv, ys, ⟨hb.set_ 1 _, ?_, hc1, by omega, ?_, ?_, ?_, ?_⟩, .inl hE, fun k hk => hk.imp (hBE k) id, ?_⟩, (m1.non.trans hm fun k hk => .inl hk), fun k hk => hk.imp id fun h => h.1⟩
  · refine hrd.mod hm fun _ b hbk e => ?_
    have := hbase b hbk
    omega
  · show SortedOf (delF D.files k) _
    rw [← hs]
    exact h1.fs.del nd k
  · intro y hy
    obtain ⟨a1, a2, a3, a4⟩ := h1.byt y (hmem y hy)
    exact ⟨(a1.mod0 m1).mod hm fun _ b hbk e => h1.rB (e ▸ a4 b hbk), a2, a3, fun b hbk => .inl (a4 b hbk)⟩
  · intro b hbk
    have h3 := hbase b hbk
    refine .inr ⟨by omega, ?_⟩
    exact (hown.lt b (by rw [slice_blk]; exact hbk)).2
  · rintro (h | h)
    · exact h1.rB h
    · omega
  · intro k hk
    rw [hsz]
    rcases hk with hk | hk
    · have := hEl k hk; omega
    · exact hk.2

/-- between two rounds of drop. -/
structure DrM (w : World) (nm : ByteArray) (xs ys : List Fc) (k : Nat) (wr : World) : Prop where
  mod : Mod Non w wr
  eq : dropS nm ((xs.map (·.f)).take k) = ys.map (·.f)
  mem : ∀ y ∈ ys, y ∈ xs
theorem dropS_snoc {nm : ByteArray} {L : List Fl} {k : Nat} {f : Fl} (h : L[k]? = some f) : dropS nm (L.take (k + 1)) = dropS nm (L.take k) ++ if f.name = nm then [] else [f] := by
  rw [take_snoc' L k f h]
  unfold dropS
  rw [List.filter_append]
  by_cases he : f.name = nm
  · simp [he]
  · simp [he]

set_option maxRecDepth 100000 in
set_option maxHeartbeats 2000000 in
theorem dropR_any (nm : ByteArray) (E : Nat → Prop) (r : Nat) (D : Dk) (w : World) (h : RkIs w E r D) (nd : (D.files.map (·.name)).Nodup) (hl : D.files.length ≤ 100000000000) :
    Calls Tryz.prog 114 #[.pointer (some ⟨r, 0, none⟩), .string nm] w (RkPost E r { D with files := delF D.files nm } (.tuple #[]) w) := by
  obtain ⟨B, A, n, c, xs, h1, hE, hBE, hEl⟩ := h
  have hlen : xs.length = D.files.length := by have := h1.fs.perm.length_eq; simpa using this
  have hn := h1.len
  have hnc := h1.nc
  have hcm := h1.cm
  have hrl := h1.blk.lt
  have c1w : w.cell? ⟨r, 1, none⟩ = some (.slice A n c) := h1.blk.cell 1
  have hn2 : n ≤ 100000000000 := by omega
  have HN := Lib.hid hn
  have HR0 := Lib.hid h1
  clear hlen hn h1
  go_enter Tryz.func114, Tryz.ntmps114
  go_wp2_with fail
  clear c1w
  go_loopw [4, 5] (fun v i wr => ∃ (k : Nat) (ys : List Fc), k ≤ n ∧ ys.length ≤ k ∧ i = .int .i64 k ∧ wr.ownsRow w.heap.size 44 3 v ys.length (flat3 ys) ∧ Hid (DrM w nm xs ys k wr)) (fun _ i _ => n - (intOf i).toNat)
  case atStart => exact ⟨0, [], Nat.zero_le _, by simp, rfl, World.ownsRow_nil _ _ _ _, ⟨Mod.refl _ _, by simp [dropS], by simp⟩⟩
  case round =>
    obtain ⟨k, ys, hk, hyl, rfl, hown, HP⟩ := hrel
    obtain ⟨Av, cv, rfl, hcv, hcv2⟩ := own_slice hown
    have hrw : w.heap.size ≤ wr.heap.size := HP.out.mod.size
    have HOWN := Lib.hid hown
    have hrow := hown.lt
    clear hown
    by_cases hlt : k < n
    · obtain ⟨b, o, y, rfl, hy, g0, g1, g2⟩ := (HR0.out.mod0 HP.out.mod).row.file hlt
      have HY := Lib.hid hy
      obtain ⟨⟨yn, ysf, yb⟩, yA, yc⟩ := y
      simp only at g0 g1 g2
      have i1 : (0 : Int) ≤ (k : Int) := by omega
      have i2 : (k : Int) < (n : Int) := by omega
      have HSN := Lib.hid (dropS_snoc (nm := nm) (L := xs.map (·.f)) (k := k) (f := ⟨yn, ysf, yb⟩) (by rw [List.getElem?_map, HY.out]; rfl))
      have c1x : wr.cell? ⟨r, 1, none⟩ = some (.slice (some ⟨b, o, none⟩) n c) := (HR0.out.mod0 HP.out.mod).blk.cell 1
      clear hy
      by_cases he : yn = nm
      · have hs : (yn.toList == nm.toList) = true := by rw [he]; simp
        have HE := Lib.hid he
        clear he
        go_wp2_with fail
        go_roundw
        case rel =>
          refine ⟨k + 1, ys, by omega, by omega, by go_num, HOWN.out, ⟨HP.out.mod, ?_, HP.out.mem⟩⟩
          rw [HSN.out, HP.out.eq, if_pos (show yn = nm from HE.out), List.append_nil]
        case measure => simp [intOf]; omega
      · have hs : (yn.toList == nm.toList) = false := beq_eq_false_iff_ne.2 fun e => he (keyF_inj (by rwa [ByteArray.toList_eq, ByteArray.toList_eq] at e))
        have HE := Lib.hid he
        clear he
        go_wp2_with (at_builtin
                     refine wpList_appF _ rfl (.tmp 25) (.tmp 33) rfl w.heap.size (.slice Av ys.length cv) ys.length ys rfl (HOWN.out.alloc _) _ 1 1 [⟨⟨yn, ysf, yb⟩, yA, yc⟩] rfl (one_file _ _ ⟨⟨yn, ysf, yb⟩, yA, yc⟩) (by omega) (by simp; omega) ?_
                     intro qA qc qw qhc qhcm qown qg qat)
        have MQ : Hid (Mod Non w qw) := (HP.out.mod.alloc _).trans (Mod.of_grown (S := fun g => (Value.slice Av ys.length cv).ownBlock = some g) qg fun _ h => h) fun g hg => .inr (hrow g hg).1
        clear qg qat
        go_roundw
        case rel =>
          refine ⟨k + 1, ys ++ [⟨⟨yn, ysf, yb⟩, yA, yc⟩], by omega, by simp; omega, by go_num, by simpa using qown, ⟨MQ.out, ?_, ?_⟩⟩
          · rw [HSN.out, HP.out.eq, if_neg (show ¬ yn = nm from HE.out)]; simp
          · intro z hz
            rcases List.mem_append.1 hz with hz | hz
            · exact HP.out.mem z hz
            · simp only [List.mem_singleton] at hz
              rw [hz]; exact List.mem_of_getElem? HY.out
        case measure => simp [intOf]; omega
    · obtain rfl : k = n := by omega
      have hblk := (HR0.out.mod0 HP.out.mod).blk
      have c1x : wr.cell? ⟨r, 1, none⟩ = some (.slice A k c) := hblk.cell 1
      have f1x := hblk.frozen 1
      have HBLK := Lib.hid hblk
      clear hblk
      go_wp2_with fail
      go_end0
      refine ⟨rfl, drop_end (k := nm) HR0.out nd hE hBE hEl HP.out.mod HBLK.out HOWN.out ?_ HP.out.mem hrl⟩
      have := HP.out.eq
      rwa [List.take_of_length_le (by simp [HN.out])] at this

end Go.Proofs.YtgdamcimpgapgaaGreatDoor

/- The reference's disk: Read, Remove. -/
namespace Go.Proofs.YtgdamcimpgapgaaGreatDoor
open Go.RowKit

theorem own_empty (w : World) (e : TypeId) (s : Nat) : (w.alloc (.cells #[] e)).ownsRow w.heap.size e s (.slice (some ⟨w.heap.size, 0, none⟩) 0 0) 0 [] :=
  ⟨by simp, .inr ⟨w.heap.size, 0, #[], rfl, Nat.le_refl _, heap_alloc_new w _, Nat.le_refl _, by simp [maxLen], by simp, by simp⟩⟩
theorem RkIs.like {w : World} {E : Nat → Prop} {r : Nat} {D D' : Dk} (h : RkIs w E r D) (h1 : D'.n = D.n) (h2 : D'.files = D.files) (h3 : D'.done = D.done) (h4 : D'.left = D.left) (h5 : D'.off = D.off) : RkIs w E r D' := by
  obtain ⟨B, A, n, c, xs, a, b⟩ := h
  exact ⟨B, A, n, c, xs, ⟨by rw [h1, h3, h4, h5]; exact a.blk, a.row, a.nc, a.cm, by rw [h2]; exact a.fs, a.byt, a.rowB, a.rB⟩, b⟩
theorem find_len {D : Dk} (ok : DkOk D) {nm : ByteArray} {f : Fl} (hf : findF D.files nm = some f) : f.bytes.length ≤ 1099511627776 ∧ costF f ≤ D.used := by
  have hc := find_cost hf
  have h1 := ok.us; have h2 := ok.u1; have h3 := ok.n1
  unfold costF at hc ⊢
  omega

set_option maxRecDepth 100000 in
set_option maxHeartbeats 1000000 in
theorem readR_any (nm : ByteArray) (E : Nat → Prop) (r : Nat) (D : Dk) (w : World) (h : RkIs w E r D) (ok : DkOk D) (hs : nm.size ≤ 9223372036854775807) :
    Calls Tryz.prog 86 #[.pointer (some ⟨r, 0, none⟩), .string nm] w (RdPost D nm w) := by
  obtain ⟨B, A, n, c, xs, h1, hE, hBE, hEl⟩ := h
  by_cases hn : named nm = true
  · have HN := Lib.hid hn
    have HC := Lib.hid (at_any nm B r D A n c xs w h1)
    have HF := Lib.hid (h1.fs.find ok.nd nm)
    have c1 : w.cell? ⟨r, 1, none⟩ = some (.slice A n c) := h1.blk.cell 1
    have hnc := h1.nc
    have hcm := h1.cm
    have hrl := h1.blk.lt
    have HA := Lib.hid h1
    have HOK := Lib.hid ok
    clear hn h1 ok
    go_enter Tryz.func86, Tryz.ntmps86
    go_wp2_with fail
    refine (namedR_any nm _ hs).mono ?_
    rw [HN.out]
    rintro e w1 ⟨rfl, rfl⟩
    go_wp2_with fail
    refine HC.out.mono ?_
    rintro e w1 ⟨rfl, hp⟩
    rcases hp with ⟨hf, rfl⟩ | ⟨i, f, hi, hf, hnm, rfl⟩
    · rw [HF.out] at hf
      have HN2 := Lib.hid hf
      clear hf
      go_wp2_with fail
      go_ret2
      show RdPost D nm w _ _
      unfold RdPost
      rw [if_pos HN.out, HN2.out]
      exact ⟨rfl, Mod.refl _ _⟩
    · rw [HF.out] at hf
      have hfl := (find_len HOK.out hf).1
      have hil : i < n := by
        have := (List.getElem?_eq_some_iff.1 hi).1
        have h2 := HA.out.len
        simp at this; omega
      obtain ⟨b, o, y, rfl, hy, g0, g1, g2⟩ := HA.out.row.file hil
      have hyf : y.f = f := by rw [List.getElem?_map, hy] at hi; simpa using hi
      obtain ⟨hyr, hy1, hy2, _⟩ := HA.out.byt y (List.mem_of_getElem? hy)
      rw [hyf] at g2 hyr hy1
      have HYR := Lib.hid hyr
      have HFF := Lib.hid hf
      have hbl : b < w.heap.size := World.block_lt_of_cell? w _ g2
      have i0 : (0 : Int) ≤ (i : Int) := by omega
      have i1 : (i : Int) < (n : Int) := by omega
      clear hi hf hnm hy g0 g1 hyr hyf
      go_wp2_with (at_builtin
                   refine wpList_app8 bt _ rfl (.tmp 15) (.tmp 23) rfl w.heap.size (.slice (some ⟨w.heap.size, 0, none⟩) 0 0) 0 [] rfl (own_empty w 5 1) y.A f.bytes.length y.c f.bytes rfl (HYR.out.alloc _) f.bytes.length (by omega) f.bytes rfl (by omega) (by simp) ?_
                   intro pA pc pw phc pown pg pat)
      go_ret2
      have hm : Mod Non w pw := (((Mod.refl Non w).alloc _).trans (Mod.of_grown (S := fun g => (Value.slice (some ⟨w.heap.size, 0, none⟩) 0 0).ownBlock = some g) pg fun _ h => h) fun g hg => .inr (by simp [Value.ownBlock] at hg; omega))
      show RdPost D nm w _ _
      unfold RdPost
      rw [if_pos HN.out, HFF.out]
      exact ⟨pA, pc, rfl, pown, hm⟩
  · have hn' : named nm = false := by simpa using hn
    have HN := Lib.hid hn'
    have HP : Hid (∀ e w', RdPost D nm w e w' ↔ (e = .returned (.tuple #[.slice none 0 0, .int .i64 1]) ∧ Mod Non w w')) := fun e w' => by unfold RdPost; rw [if_neg hn]
    clear hn hn' h1 ok
    go_enter Tryz.func86, Tryz.ntmps86
    go_wp2_with fail
    refine (namedR_any nm _ hs).mono ?_
    rw [HN.out]
    rintro e w1 ⟨rfl, rfl⟩
    go_wp2_with fail
    go_ret2
    exact (HP.out _ _).2 ⟨rfl, Mod.refl _ _⟩

theorem RkIs.of_at {w w' : World} {B E : Nat → Prop} {r n c : Nat} {D : Dk} {A : Option Addr} {xs : List Fc} (h : RkAt w' B r D A n c xs) (hE : E r) (hBE : ∀ k, B k → E k) (hEl : ∀ k, E k → k < w.heap.size) (hm : Mod (fun k => k = r) w w') : RkIs w' E r D :=
  ⟨B, A, n, c, xs, h, hE, hBE, fun k hk => Nat.lt_of_lt_of_le (hEl k hk) hm.size⟩

set_option maxRecDepth 100000 in
set_option maxHeartbeats 1000000 in
theorem removeR_any (nm : ByteArray) (E : Nat → Prop) (r : Nat) (D : Dk) (w : World) (h : RkIs w E r D) (ok : DkOk D) (hs : nm.size ≤ 9223372036854775807) :
    Calls Tryz.prog 88 #[.pointer (some ⟨r, 0, none⟩), .string nm] w (RkPost E r (removeD D nm) (.int .i64 (removeE D nm)) w) := by
  have HH := Lib.hid h
  have hfl := files_len ok
  obtain ⟨B, A, n, c, xs, h1, hE, hBE, hEl⟩ := h
  have HA := Lib.hid h1
  have HOK := Lib.hid ok
  have l0 := ok.l0
  have l1 := ok.l1
  obtain ⟨nb, hnb⟩ : ∃ nb, named nm = nb := ⟨_, rfl⟩
  have HN := Lib.hid hnb
  have HR := Lib.hid (rightR_any nb B r D A n c xs w h1)
  obtain ⟨D', hD'⟩ : ∃ D', removeD D nm = D' := ⟨_, rfl⟩
  obtain ⟨E', hE'⟩ : ∃ E', removeE D nm = E' := ⟨_, rfl⟩
  rw [hD', hE']
  have HD := Lib.hid hD'
  have HEE := Lib.hid hE'
  clear h1 ok hnb hD' hE'
  by_cases hgo : nb = true ∧ D.off = false
  · obtain ⟨rfl, hoff⟩ := hgo
    have HRV : Hid (rightE true D = 0) := by show _ = _; unfold rightE; rw [hoff]; simp
    have HOFF := Lib.hid hoff
    clear hoff
    go_enter Tryz.func88, Tryz.ntmps88
    go_wp2_with fail
    refine (namedR_any nm _ hs).mono ?_
    rw [HN.out]
    rintro e w1 ⟨rfl, rfl⟩
    go_wp2_with fail
    refine HR.out.mono ?_
    rw [HRV.out]
    rintro e w1 ⟨rfl, rfl⟩
    go_wp2_with fail
    refine (hasR_any nm E r D _ HH.out HOK.out.nd).mono ?_
    cases hf : findF D.files nm with
    | none =>
      have HV : Hid (D' = D ∧ E' = 3) := by
        show _ ∧ _
        rw [← HD.out, ← HEE.out]
        unfold removeD removeE
        rw [if_pos ⟨HN.out, HOFF.out⟩, if_pos HN.out, HOFF.out, hf]
        exact ⟨rfl, rfl⟩
      clear hf
      rintro e w1 ⟨rfl, rfl⟩
      go_wp2_with fail
      go_ret
      exact ⟨by rw [HV.out.2]; rfl, E, by rw [HV.out.1]; exact HH.out, Mod.refl _ _, fun k hk => .inl hk⟩
    | some f =>
      have hcost := (find_len HOK.out hf).2
      have u1 := HOK.out.u1
      have hc0 : 0 ≤ costF f := by unfold costF; omega
      have HS := Lib.hid (stepR_any B r D A n c xs w HA.out l0 l1)
      by_cases hz : D.left = 0
      · have HV : Hid (D' = stepD D ∧ E' = 5) := by
          show _ ∧ _
          have e5 : spendE D (-costF f) = 5 := by unfold spendE; rw [if_neg (by omega), if_pos hz]
          have h6 : spendD D (-costF f) = stepD D := by unfold spendD stepD; rw [if_neg (by omega), if_pos hz, if_pos hz]
          rw [← HD.out, ← HEE.out]
          constructor
          · unfold removeD
            rw [if_pos ⟨HN.out, HOFF.out⟩, hf]
            show (if spendE D (-costF f) = 0 then _ else _) = _
            rw [if_neg (by omega), h6]
          · unfold removeE
            rw [if_pos HN.out, if_neg (by rw [HOFF.out]; simp), hf]
            exact e5
        have hzb : decide (D.left ≠ 0) = false := by simp [hz]
        have HZ := Lib.hid hzb
        clear hf hzb hz
        rintro e w1 ⟨rfl, rfl⟩
        go_wp2_with fail
        refine HS.out.mono ?_
        rw [HZ.out]
        rintro e w2 ⟨rfl, hA2, hm2⟩
        have HA2 := Lib.hid hA2
        have HM2 := Lib.hid hm2
        clear hA2 hm2
        go_wp2_with fail
        go_ret
        exact ⟨by rw [HV.out.2]; rfl, E, by rw [HV.out.1]; exact RkIs.of_at HA2.out hE hBE hEl HM2.out, HM2.out, fun k hk => .inl hk⟩
      · have HV : Hid (E' = 0 ∧ D'.n = D.n ∧ D'.files = delF D.files nm ∧ D'.done = (stepD D).done ∧ D'.left = (stepD D).left ∧ D'.off = (stepD D).off) := by
          have e5 : spendE D (-costF f) = 0 := by unfold spendE; rw [if_neg (by omega), if_neg hz]
          have h7 : removeD D nm = { spendD D (-costF f) with files := delF D.files nm } := by
            unfold removeD
            rw [if_pos ⟨HN.out, HOFF.out⟩, hf]
            show (if spendE D (-costF f) = 0 then _ else _) = _
            rw [if_pos e5]
          have h8 : removeE D nm = 0 := by
            unfold removeE
            rw [if_pos HN.out, if_neg (by rw [HOFF.out]; simp), hf]
            exact e5
          have h9 : spendD D (-costF f) = { D with left := max (D.left - 1) (-1), done := wrap64 (D.done + 1), used := D.used + -costF f } := by unfold spendD; rw [if_neg (by omega), if_neg hz]
          have h10 : stepD D = { D with left := max (D.left - 1) (-1), done := wrap64 (D.done + 1) } := by unfold stepD; rw [if_neg hz]
          refine ⟨by rw [← HEE.out, h8], ?_⟩
          rw [← HD.out, h7, h9, h10]
          exact ⟨rfl, rfl, rfl, rfl, rfl⟩
        have hzb : decide (D.left ≠ 0) = true := by simp [hz]
        have HZ := Lib.hid hzb
        have HSF : Hid ((stepD D).files = D.files ∧ (stepD D).n = D.n) := by unfold stepD; split <;> exact ⟨rfl, rfl⟩
        clear hf hzb hz
        rintro e w1 ⟨rfl, rfl⟩
        go_wp2_with fail
        refine HS.out.mono ?_
        rw [HZ.out]
        rintro e w2 ⟨rfl, hA2, hm2⟩
        have HA2 := Lib.hid hA2
        have HM2 := Lib.hid hm2
        clear hA2 hm2
        go_wp2_with fail
        refine (dropR_any nm E r (stepD D) _ (RkIs.of_at HA2.out hE hBE hEl HM2.out) (by rw [HSF.out.1]; exact HOK.out.nd) (by rw [HSF.out.1]; omega)).mono ?_
        rintro e w3 ⟨rfl, E3, h3, hm3, hE3⟩
        have H3 := Lib.hid h3
        have HM3 := Lib.hid hm3
        have HE3 := Lib.hid hE3
        clear h3 hm3 hE3
        go_wp2_with fail
        go_ret
        refine ⟨by rw [HV.out.1]; rfl, E3, H3.out.like ?_ ?_ ?_ ?_ ?_, HM2.out.trans HM3.out fun k hk => .inl hk, fun k hk => (HE3.out k hk).imp id fun h => Nat.le_trans HM2.out.size h⟩
        · rw [HV.out.2.1]; exact HSF.out.2.symm
        · rw [HV.out.2.2.1]; show _ = delF (stepD D).files nm; rw [HSF.out.1]
        · exact HV.out.2.2.2.1
        · exact HV.out.2.2.2.2.1
        · exact HV.out.2.2.2.2.2
  · have HV : Hid (D' = D ∧ rightE nb D = E' ∧ E' ≠ 0) := by
      show _ ∧ _ ∧ _
      rw [← HD.out, ← HEE.out]
      unfold removeD removeE rightE
      rw [HN.out, if_neg hgo]
      cases nb with
      | false => simp
      | true =>
        cases hoff : D.off with
        | true => simp
        | false => exact absurd ⟨rfl, hoff⟩ hgo
    have hEb : (E' == 0) = false := by simpa using HV.out.2.2
    clear hgo
    go_enter Tryz.func88, Tryz.ntmps88
    go_wp2_with fail
    refine (namedR_any nm _ hs).mono ?_
    rw [HN.out]
    rintro e w1 ⟨rfl, rfl⟩
    go_wp2_with fail
    refine HR.out.mono ?_
    rw [HV.out.2.1]
    rintro e w1 ⟨rfl, rfl⟩
    go_wp2_with fail
    go_ret
    exact ⟨rfl, E, by rw [HV.out.1]; exact HH.out, Mod.refl _ _, fun k hk => .inl hk⟩

end Go.Proofs.YtgdamcimpgapgaaGreatDoor

/- The reference's disk: Sync. -/
namespace Go.Proofs.YtgdamcimpgapgaaGreatDoor
open Go.RowKit

set_option maxRecDepth 100000 in
set_option maxHeartbeats 1000000 in
theorem syncR_any (nm : ByteArray) (E : Nat → Prop) (r : Nat) (D : Dk) (w : World) (h : RkIs w E r D) (ok : DkOk D) (hs : nm.size ≤ 9223372036854775807) :
    Calls Tryz.prog 91 #[.pointer (some ⟨r, 0, none⟩), .string nm] w (RkPost E r (syncD D nm) (.int .i64 (syncE D nm)) w) := by
  have HH := Lib.hid h
  have hfl := files_len ok
  obtain ⟨B, A, n, c, xs, h1, hE, hBE, hEl⟩ := h
  have HA := Lib.hid h1
  have HOK := Lib.hid ok
  have l0 := ok.l0
  have l1 := ok.l1
  have hnc := h1.nc
  have hcm := h1.cm
  obtain ⟨nb, hnb⟩ : ∃ nb, named nm = nb := ⟨_, rfl⟩
  have HN := Lib.hid hnb
  have HR := Lib.hid (rightR_any nb B r D A n c xs w h1)
  have HF := Lib.hid (h1.fs.find ok.nd nm)
  obtain ⟨D', hD'⟩ : ∃ D', syncD D nm = D' := ⟨_, rfl⟩
  obtain ⟨E', hE'⟩ : ∃ E', syncE D nm = E' := ⟨_, rfl⟩
  rw [hD', hE']
  have HD := Lib.hid hD'
  have HEE := Lib.hid hE'
  clear h1 ok hnb hD' hE'
  by_cases hgo : nb = true ∧ D.off = false
  · obtain ⟨rfl, hoff⟩ := hgo
    have HRV : Hid (rightE true D = 0) := by show _ = _; unfold rightE; rw [hoff]; simp
    have HOFF := Lib.hid hoff
    have HC := Lib.hid (at_any nm B r D A n c xs w HA.out)
    clear hoff
    go_enter Tryz.func91, Tryz.ntmps91
    go_wp2_with fail
    refine (namedR_any nm _ hs).mono ?_
    rw [HN.out]
    rintro e w1 ⟨rfl, rfl⟩
    go_wp2_with fail
    refine HR.out.mono ?_
    rw [HRV.out]
    rintro e w1 ⟨rfl, rfl⟩
    go_wp2_with fail
    refine HC.out.mono ?_
    rintro e w1 ⟨rfl, hp⟩
    rcases hp with ⟨hf, rfl⟩ | ⟨i, f, hi, hf, hnm, rfl⟩
    · rw [HF.out] at hf
      have HV : Hid (D' = D ∧ E' = 3) := by
        show _ ∧ _
        rw [← HD.out, ← HEE.out]
        constructor
        · unfold syncD; rw [if_pos ⟨HN.out, HOFF.out⟩, hf]
        · unfold syncE; rw [if_pos HN.out, if_neg (by rw [HOFF.out]; simp), hf]; rfl
      clear hf
      go_wp2_with fail
      go_ret
      exact ⟨by rw [HV.out.2]; rfl, E, by rw [HV.out.1]; exact HH.out, Mod.refl _ _, fun k hk => .inl hk⟩
    · rw [HF.out] at hf
      have u1 := HOK.out.u1
      have HS := Lib.hid (stepR_any B r D A n c xs w HA.out l0 l1)
      have i0 : (0 : Int) ≤ (i : Int) := by omega
      have HFF := Lib.hid hf
      have HI := Lib.hid hi
      have HNM := Lib.hid hnm
      clear hf hi hnm
      by_cases hz : D.left = 0
      · have HV : Hid (D' = stepD D ∧ E' = 5) := by
          show _ ∧ _
          have e5 : spendE D 0 = 5 := by unfold spendE; rw [if_neg (by omega), if_pos hz]
          have h6 : spendD D 0 = stepD D := by unfold spendD stepD; rw [if_neg (by omega), if_pos hz, if_pos hz]
          rw [← HD.out, ← HEE.out]
          constructor
          · unfold syncD
            rw [if_pos ⟨HN.out, HOFF.out⟩, HFF.out]
            show (if spendE D 0 = 0 then _ else _) = _
            rw [if_neg (by omega), h6]
          · unfold syncE
            rw [if_pos HN.out, if_neg (by rw [HOFF.out]; simp), HFF.out, if_pos (show (some f).isSome = true from rfl)]
            exact e5
        have hzb : decide (D.left ≠ 0) = false := by simp [hz]
        have HZ := Lib.hid hzb
        clear hzb hz
        go_wp2_with fail
        refine HS.out.mono ?_
        rw [HZ.out]
        rintro e w2 ⟨rfl, hA2, hm2⟩
        have HA2 := Lib.hid hA2
        have HM2 := Lib.hid hm2
        clear hA2 hm2
        go_wp2_with fail
        go_ret
        exact ⟨by rw [HV.out.2]; rfl, E, by rw [HV.out.1]; exact RkIs.of_at HA2.out hE hBE hEl HM2.out, HM2.out, fun k hk => .inl hk⟩
      · have HV : Hid (E' = 0 ∧ D'.n = D.n ∧ D'.files = putF D.files ⟨nm, f.bytes.length, f.bytes⟩ ∧ D'.done = (stepD D).done ∧ D'.left = (stepD D).left ∧ D'.off = (stepD D).off) := by
          show _ ∧ _
          have e5 : spendE D 0 = 0 := by unfold spendE; rw [if_neg (by omega), if_neg hz]
          have h7 : syncD D nm = { spendD D 0 with files := putF D.files ⟨nm, f.bytes.length, f.bytes⟩ } := by
            unfold syncD
            rw [if_pos ⟨HN.out, HOFF.out⟩, HFF.out]
            show (if spendE D 0 = 0 then _ else _) = _
            rw [if_pos e5]
          have h8 : syncE D nm = 0 := by
            unfold syncE
            rw [if_pos HN.out, if_neg (by rw [HOFF.out]; simp), HFF.out, if_pos (show (some f).isSome = true from rfl)]
            exact e5
          have h9 : spendD D 0 = { D with left := max (D.left - 1) (-1), done := wrap64 (D.done + 1), used := D.used + 0 } := by unfold spendD; rw [if_neg (by omega), if_neg hz]
          have h10 : stepD D = { D with left := max (D.left - 1) (-1), done := wrap64 (D.done + 1) } := by unfold stepD; rw [if_neg hz]
          refine ⟨by rw [← HEE.out, h8], ?_⟩
          rw [← HD.out, h7, h9, h10]
          exact ⟨rfl, rfl, rfl, rfl, rfl⟩
        have hzb : decide (D.left ≠ 0) = true := by simp [hz]
        have HZ := Lib.hid hzb
        have HSF : Hid ((stepD D).files = D.files ∧ (stepD D).n = D.n) := by unfold stepD; split <;> exact ⟨rfl, rfl⟩
        clear hzb hz
        go_wp2_with fail
        refine HS.out.mono ?_
        rw [HZ.out]
        rintro e w2 ⟨rfl, hA2, hm2⟩
        have HA2 := Lib.hid hA2
        have HM2 := Lib.hid hm2
        have hil : i < n := by
          have := (List.getElem?_eq_some_iff.1 HI.out).1
          have h2 := HA.out.len
          simp at this; omega
        obtain ⟨b, o, y, rfl, hy, g0, g1, g2⟩ := hA2.row.file hil
        have hyf : y.f = f := by have hi := HI.out; rw [List.getElem?_map, hy] at hi; simpa using hi
        have hyB := hA2.byt y (List.mem_of_getElem? hy)
        have HYB := Lib.hid hyB
        obtain ⟨yf, yA, yc⟩ := y
        simp only at hyf
        subst hyf
        obtain ⟨yn, ys, yb⟩ := yf
        have c1x : w2.cell? ⟨r, 1, none⟩ = some (.slice (some ⟨b, o, none⟩) n c) := hA2.blk.cell 1
        have hrl := hA2.blk.lt
        have hbl : b < w2.heap.size := World.block_lt_of_cell? w2 _ g2
        have i1 : (i : Int) < (n : Int) := by omega
        simp only at g0 g1 g2
        clear hA2 hm2 hy hyB
        go_wp2_with fail
        have hyr := HYB.out.2.2.2
        refine (put_any ⟨⟨yn, yb.length, yb⟩, yA, yc⟩ E r (stepD D) _ ((RkIs.of_at HA2.out hE hBE hEl HM2.out).mod0 ((Mod.refl Non w2).alloc _)) (by rw [HSF.out.1]; exact HOK.out.nd) (by rw [HSF.out.1]; omega) (HYB.out.1.alloc _) HYB.out.2.1 HYB.out.2.2.1 (fun g hg => ⟨fun e => HA2.out.rB (e ▸ hyr g hg), by have := hEl g (hBE g (hyr g hg)); have := HM2.out.size; simp; omega⟩)).mono ?_
        rintro e w3 ⟨rfl, E3, h3, hm3, hE3⟩
        have H3 := Lib.hid h3
        have HM3 := Lib.hid hm3
        have HE3 := Lib.hid hE3
        have HYR := Lib.hid hyr
        clear h3 hm3 hE3 c1x g0 g1 g2 hyr
        go_wp2_with fail
        go_ret
        refine ⟨by rw [HV.out.1]; rfl, E3, H3.out.like ?_ ?_ ?_ ?_ ?_, (HM2.out.alloc _).trans HM3.out fun k hk => .inl hk, fun k hk => ?_⟩
        · rw [HV.out.2.1]; exact HSF.out.2.symm
        · rw [HV.out.2.2.1]
          show _ = putF (stepD D).files _
          have hnm : yn = nm := HNM.out
          rw [HSF.out.1, hnm]
        · exact HV.out.2.2.2.1
        · exact HV.out.2.2.2.2.1
        · exact HV.out.2.2.2.2.2
        · rcases HE3.out k hk with h | h | h
          · exact .inl h
          · exact .inl (hBE k (HYR.out k h))
          · exact .inr (by have := HM2.out.size; simp at h; omega)
  · have HV : Hid (D' = D ∧ rightE nb D = E' ∧ E' ≠ 0) := by
      show _ ∧ _ ∧ _
      rw [← HD.out, ← HEE.out]
      unfold syncD syncE rightE
      rw [HN.out, if_neg hgo]
      cases nb with
      | false => simp
      | true =>
        cases hoff : D.off with
        | true => simp
        | false => exact absurd ⟨rfl, hoff⟩ hgo
    have hEb : (E' == 0) = false := by simpa using HV.out.2.2
    clear hgo
    go_enter Tryz.func91, Tryz.ntmps91
    go_wp2_with fail
    refine (namedR_any nm _ hs).mono ?_
    rw [HN.out]
    rintro e w1 ⟨rfl, rfl⟩
    go_wp2_with fail
    refine HR.out.mono ?_
    rw [HV.out.2.1]
    rintro e w1 ⟨rfl, rfl⟩
    go_wp2_with fail
    go_ret
    exact ⟨rfl, E, by rw [HV.out.1]; exact HH.out, Mod.refl _ _, fun k hk => .inl hk⟩

end Go.Proofs.YtgdamcimpgapgaaGreatDoor
