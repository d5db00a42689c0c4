/- The reference's disk: put, drop. -/
import Derived.Test.YtdpjnpjmokncdaaGreatDoorB26
import Derived.Test.YtdpjnpjmokncdaaGreatDoorB24
import Derived.Test.YtdpjnpjmokncdaaGreatDoorB25
namespace Go.Proofs.YtdpjnpjmokncdaaGreatDoor
open Go.RowKit

theorem bl_eq : ∀ (x y : List UInt8), Op.bytesLess x y = decide (x < y)
  | [], [] => by simp [Op.bytesLess]
  | _ :: _, [] => by simp [Op.bytesLess]
  | [], _ :: _ => by simp [Op.bytesLess]
  | a :: x, b :: y => by
    rw [Op.bytesLess, bl_eq x y]
    by_cases h1 : a < b
    · simp [h1, List.cons_lt_cons_iff]
    · by_cases h2 : a = b
      · subst h2; simp
      · simp [h1, h2, List.cons_lt_cons_iff]
theorem bl_name (x y : ByteArray) : Op.bytesLess x.toList y.toList = decide (x.data.toList < y.data.toList) := by rw [bl_eq, ByteArray.toList_eq, ByteArray.toList_eq]
theorem putS_le (g f : Fl) (r : List Fl) (h : keyF g ≤ keyF f) : putS g false (f :: r) = [g] ++ ((if f.name = g.name then [] else [f]) ++ putS g true r) := by
  rw [putS]; simp [h]
theorem putS_gt (g f : Fl) (r : List Fl) (h : ¬ keyF g ≤ keyF f) : putS g false (f :: r) = f :: putS g false r := by
  have hne : f.name ≠ g.name := fun e => h (by unfold keyF; rw [e]; exact List.le_refl _)
  rw [putS]; simp [h, hne]
theorem putS_tr (g f : Fl) (r : List Fl) : putS g true (f :: r) = (if f.name = g.name then [] else [f]) ++ putS g true r := by
  rw [putS]; simp
theorem Rd.of_own3 {w : World} {A : Option Addr} {n base : Nat} {e : TypeId} {c : Nat} {vs : List Value} (h : w.ownsRow base e 3 (.slice A n c) n vs) : Rd w A (n * 3) vs := by
  obtain ⟨hl, hr⟩ := h
  refine ⟨by omega, fun hn => ?_⟩
  rcases hr with ⟨hv, h0⟩ | ⟨g, cap, cur, hv, hg, hh, hnc, hcm, hsz, ht⟩
  · omega
  · injection hv with hA _ _
    subst hA
    refine ⟨g, 0, rfl, fun j u hu => ?_⟩
    rw [Nat.zero_add, cell_of_row w g j cur e (0, 0) hh]
    rw [← ht, List.getElem?_take] at hu
    split at hu
    · simpa using hu
    · cases hu
/-- between two rounds of put. -/
structure PtM (w0 : World) (x : Fc) (xs ys : List Fc) (k : Nat) (done : Bool) (wr : World) : Prop where
  mod : Mod Non w0 wr
  eq : putS x.f false (xs.map (·.f)) = ys.map (·.f) ++ putS x.f done ((xs.map (·.f)).drop k)
  mem : ∀ y ∈ ys, y = x ∨ y ∈ xs

theorem slice_blk (A : Option Addr) (n c : Nat) : (Value.slice A n c).ownBlock = blkOf A := by cases A <;> rfl
/-- the end of put and of drop: the new row in the place of the old one. -/
theorem put_end {x : Fc} {E B : Nat → Prop} {r : Nat} {D : Dk} {w w0 wr : World} {A : Option Addr} {n c : Nat} {xs ys : List Fc} {Av : Option Addr} {cv n' : Nat} (_hn' : ys.length = n') (h1 : RkAt w B r D A n c xs) (nd : (D.files.map (·.name)).Nodup)
    (hE : E r) (hBE : ∀ k, B k → E k) (hEl : ∀ k, E k → k < w.heap.size) (m0 : Mod Non w w0) (m1 : Mod Non w0 wr) (hb : Blk wr r 72 #[.int .i64 D.n, .slice A n c, .int .i64 D.done, .int .i64 D.left, .bool D.off])
    (hown : wr.ownsRow w0.heap.size 67 3 (.slice Av n' cv) n' (flat3 ys)) (hs : putS x.f false (xs.map (·.f)) = ys.map (·.f)) (hmem : ∀ y ∈ ys, y = x ∨ y ∈ xs)
    (hx : Rd w x.A x.f.bytes.length (by8 x.f.bytes)) (hx1 : x.f.bytes.length ≤ x.c) (hx2 : x.c ≤ 9223372036854775807) (hxr : ∀ b, blkOf x.A = some b → b ≠ r ∧ b < w.heap.size) (hr : r < w.heap.size) :
    ∃ E', RkIs (wr.setCell ⟨r, 1, none⟩ (.slice Av n' cv)) E' r { D with files := putF D.files x.f } ∧ Mod (fun k => k = r) w (wr.setCell ⟨r, 1, none⟩ (.slice Av n' cv)) ∧ ∀ k, E' k → E k ∨ blkOf x.A = some k ∨ w.heap.size ≤ k := by
  have hm : Mod (fun k => k = r) wr (wr.setCell ⟨r, 1, none⟩ (.slice Av n' cv)) := (Mod.refl (fun k => k = r) wr).set1 1 _
  have ho := own_slice hown
  obtain ⟨A', c', he, hc1, hc2⟩ := ho
  injection he with _ _ he
  subst he
  have hs0 := m0.size
  have hs1 := m1.size
  have hmx : maxLen = 9223372036854775807 := rfl
  have hbase := own_base hown
  have hrd := Rd.of_own3 hown
  have hsz : (wr.setCell ⟨r, 1, none⟩ (.slice Av n' cv)).heap.size = wr.heap.size := by simp [World.setCell]
  refine ⟨fun k => E k ∨ blkOf x.A = some k ∨ (w.heap.size ≤ k ∧ k < wr.heap.size), ⟨fun k => B k ∨ (blkOf x.A = some k) ∨ (w.heap.size ≤ k ∧ k < wr.heap.size), Av, n', cv, ys, ⟨hb.set_ 1 _, ?_, hc1, by omega, ?_, ?_, ?_, ?_⟩, .inl hE, fun k hk => hk.imp (hBE k) id, ?_⟩, ((m0.non.trans0 m1).trans hm fun k hk => .inl hk), fun k hk => hk.imp id fun h => h.imp id fun h => h.1⟩
  · refine hrd.mod hm fun _ b hbk e => ?_
    have := hbase b hbk
    omega
  · show SortedOf (putF D.files x.f) _
    rw [← hs]
    exact h1.fs.put nd x.f
  · intro y hy
    rcases hmem y hy with rfl | hy
    · exact ⟨((hx.mod0 m0).mod0 m1).mod hm fun _ b hbk e => (hxr b hbk).1 e, hx1, hx2, fun b hbk => .inr (.inl hbk)⟩
    · obtain ⟨a1, a2, a3, a4⟩ := h1.byt y hy
      exact ⟨((a1.mod0 m0).mod0 m1).mod hm fun _ b hbk e => h1.rB (e ▸ a4 b hbk), a2, a3, fun b hbk => .inl (a4 b hbk)⟩
  · intro b hbk
    have h3 := hbase b hbk
    refine .inr (.inr ⟨by omega, ?_⟩)
    exact (hown.lt b (by rw [slice_blk]; exact hbk)).2
  · rintro (h | h | h)
    · exact h1.rB h
    · exact (hxr _ h).1 rfl
    · omega
  · intro k hk
    rw [hsz]
    rcases hk with hk | hk | hk
    · have := hEl k hk; omega
    · have := (hxr k hk).2; omega
    · exact hk.2

set_option maxRecDepth 100000 in
set_option maxHeartbeats 2000000 in
theorem put_any (x : Fc) (E : Nat → Prop) (r : Nat) (D : Dk) (w : World) (h : RkIs w E r D) (nd : (D.files.map (·.name)).Nodup) (hl : D.files.length ≤ 100000000000)
    (hx : Rd w x.A x.f.bytes.length (by8 x.f.bytes)) (hx1 : x.f.bytes.length ≤ x.c) (hx2 : x.c ≤ 9223372036854775807) (hxr : ∀ b, blkOf x.A = some b → b ≠ r ∧ b < w.heap.size) :
    Calls Tryz.prog 98 #[.pointer (some ⟨r, 0, none⟩), .agg #[.string x.f.name, .int .i64 (x.f.safe : Int), .slice x.A x.f.bytes.length x.c]] w fun e w' =>
      e = .returned (.tuple #[]) ∧ ∃ E', RkIs w' E' r { D with files := putF D.files x.f } ∧ Mod (fun k => k = r) w w' ∧ ∀ k, E' k → E k ∨ blkOf x.A = some k ∨ w.heap.size ≤ k := by
  obtain ⟨B, A, n, c, xs, h1, hE, hBE, hEl⟩ := h
  have hlen : xs.length = D.files.length := by have := h1.fs.perm.length_eq; simpa using this
  have hn := h1.len
  have hnc := h1.nc
  have hcm := h1.cm
  have hrl := h1.blk.lt
  obtain ⟨xf, xA, xc⟩ := x
  obtain ⟨xn, xs0, xb⟩ := xf
  simp only at hx hx1 hx2 hxr
  obtain ⟨w0, hw0⟩ : ∃ w0, w.alloc (.cells #[.string xn, .int .i64 (xs0 : Int), .slice xA xb.length xc] 67) = w0 := ⟨_, rfl⟩
  have hm0 : Mod Non w w0 := by rw [← hw0]; exact (Mod.refl Non w).alloc _
  have hsz : w0.heap.size = w.heap.size + 1 := by rw [← hw0]; simp
  have hbx : Blk w0 w.heap.size 67 #[.string xn, .int .i64 (xs0 : Int), .slice xA xb.length xc] := by rw [← hw0]; exact Blk.new w _ _
  have HBX := Lib.hid hbx
  have HR0 := Lib.hid (h1.mod0 hm0)
  have HW0 := Lib.hid hw0
  have HM0 := Lib.hid hm0
  have hn2 : n ≤ 100000000000 := by omega
  have HN := Lib.hid hn
  have HH1 := Lib.hid h1
  have HHX := Lib.hid hx
  clear hlen hn hm0 hbx h1 hx
  go_enter Tryz.func98, Tryz.ntmps98
  go_wp2_with fail
  clear hw0
  go_loopw [4, 5, 6] (fun v dn i wr => ∃ (k : Nat) (ys : List Fc) (done : Bool), k ≤ n ∧ ys.length ≤ k + done.toNat ∧ i = .int .i64 k ∧ dn = .bool done ∧ wr.ownsRow w0.heap.size 67 3 v ys.length (flat3 ys) ∧ Hid (PtM w0 ⟨⟨xn, xs0, xb⟩, xA, xc⟩ xs ys k done wr)) (fun _ _ i _ => n - (intOf i).toNat)
  case atStart => exact ⟨0, [], false, Nat.zero_le _, by simp, rfl, rfl, World.ownsRow_nil _ _ _ _, ⟨Mod.refl _ _, by simp, by simp⟩⟩
  case round =>
    obtain ⟨k, ys, done, hk, hyl, rfl, rfl, hown, HP⟩ := hrel
    obtain ⟨Av, cv, rfl, hcv, hcv2⟩ := own_slice hown
    have hrw : w0.heap.size ≤ wr.heap.size := HP.out.mod.size
    have HOWN := Lib.hid hown
    have hrow := hown.lt
    clear hown
    by_cases hlt : k < n
    · obtain ⟨b, o, y, rfl, hy, g0, g1, g2⟩ := HR0.out.row.file hlt
      have HY := Lib.hid hy
      obtain ⟨⟨yn, ysf, yb⟩, yA, yc⟩ := y
      simp only at g0 g1 g2
      have G0 := Lib.hid g0
      have G1 := Lib.hid g1
      have G2 := Lib.hid g2
      have i1 : (0 : Int) ≤ (k : Int) := by omega
      have i2 : (k : Int) < (n : Int) := by omega
      clear hy g0 g1 g2
      have HDR : Hid ((xs.map (·.f)).drop k = ⟨yn, ysf, yb⟩ :: (xs.map (·.f)).drop (k + 1)) := by
        show _ = _
        have : (xs.map (·.f))[k]? = some ⟨yn, ysf, yb⟩ := by rw [List.getElem?_map, HY.out]; rfl
        obtain ⟨h1, h2⟩ := List.getElem?_eq_some_iff.1 this
        rw [List.drop_eq_getElem_cons h1, h2]
      have c1x : wr.cell? ⟨r, 1, none⟩ = some (.slice (some ⟨b, o, none⟩) n c) := (HR0.out.mod0 HP.out.mod).blk.cell 1
      have b0x : wr.cell? ⟨w.heap.size, 0, none⟩ = some (.string xn) := (HBX.out.mod HP.out.mod fun h => h).cell 0
      have b1x : wr.cell? ⟨w.heap.size, 1, none⟩ = some (.int .i64 (xs0 : Int)) := (HBX.out.mod HP.out.mod fun h => h).cell 1
      have b2x : wr.cell? ⟨w.heap.size, 2, none⟩ = some (.slice xA xb.length xc) := (HBX.out.mod HP.out.mod fun h => h).cell 2
      have g0x : wr.cell? ⟨b, o + k * 3, none⟩ = some (.string yn) := HP.out.mod.cell G0.out (fun h => h)
      have g1x : wr.cell? ⟨b, o + k * 3 + 1, none⟩ = some (.int .i64 (ysf : Int)) := HP.out.mod.cell G1.out (fun h => h)
      have g2x : wr.cell? ⟨b, o + k * 3 + 2, none⟩ = some (.slice yA yb.length yc) := HP.out.mod.cell G2.out (fun h => h)
      cases done with
      | false =>
        simp only [Bool.toNat_false, Nat.add_zero] at hyl
        by_cases hle : keyF ⟨xn, xs0, xb⟩ ≤ keyF ⟨yn, ysf, yb⟩
        · have hbl : Op.bytesLess yn.toList xn.toList = false := by rw [bl_name]; exact decide_eq_false (List.not_lt.2 hle)
          have HLE := Lib.hid hle
          clear hle
          go_wp2_with fail
          go_quiet (fail)
          clear hbl
          go_wp2_with (at_builtin
                       refine wpList_appF _ rfl (.tmp 31) (.tmp 33) rfl w0.heap.size (.slice Av ys.length cv) ys.length ys rfl ((own_mod (S := Non) (w' := wr.drewN nq) HOWN.out ((Mod.refl Non wr).drewN nq) (fun _ _ h => h)).alloc _) _ 1 1 [⟨⟨xn, xs0, xb⟩, xA, xc⟩] rfl (one_file _ _ ⟨⟨xn, xs0, xb⟩, xA, xc⟩) (by simp; omega) (by simp; omega) ?_
                       intro pA pc pw phc phcm pown pg pat)
          have MP : Hid (Mod Non w0 pw) := ((HP.out.mod.drewN nq).alloc _).trans (Mod.of_grown (S := fun g => (Value.slice Av ys.length cv).ownBlock = some g) pg fun _ h => h) fun g hg => .inr (hrow g hg).1
          have hpl : pw.heap.size ≥ w0.heap.size := MP.out.size
          have POWN := Lib.hid pown
          have prow := pown.lt
          clear pown pg pat c1x b0x b1x b2x g0x g1x g2x
          have c1x : pw.cell? ⟨r, 1, none⟩ = some (.slice (some ⟨b, o, none⟩) n c) := (HR0.out.mod0 MP.out).blk.cell 1
          have b0x : pw.cell? ⟨w.heap.size, 0, none⟩ = some (.string xn) := (HBX.out.mod MP.out fun h => h).cell 0
          have b1x : pw.cell? ⟨w.heap.size, 1, none⟩ = some (.int .i64 (xs0 : Int)) := (HBX.out.mod MP.out fun h => h).cell 1
          have b2x : pw.cell? ⟨w.heap.size, 2, none⟩ = some (.slice xA xb.length xc) := (HBX.out.mod MP.out fun h => h).cell 2
          have g0x : pw.cell? ⟨b, o + k * 3, none⟩ = some (.string yn) := MP.out.cell G0.out (fun h => h)
          have g1x : pw.cell? ⟨b, o + k * 3 + 1, none⟩ = some (.int .i64 (ysf : Int)) := MP.out.cell G1.out (fun h => h)
          have g2x : pw.cell? ⟨b, o + k * 3 + 2, none⟩ = some (.slice yA yb.length yc) := MP.out.cell G2.out (fun h => h)
          by_cases he : yn = xn
          · have hs : (yn.toList == xn.toList) = true := by rw [he]; simp
            have HE := Lib.hid he
            clear he
            go_wp2_with fail
            go_quiet (fail)
            go_wp2_with fail
            go_roundw
            case rel =>
              refine ⟨k + 1, ys ++ [⟨⟨xn, xs0, xb⟩, xA, xc⟩], true, by omega, by simp; omega, by go_num, rfl, by rw [List.length_append]; exact own_mod (S := Non) POWN.out ((Mod.refl Non pw).drewN _) (fun _ _ h => h), ⟨MP.out.drewN _, ?_, ?_⟩⟩
              · have e := HP.out.eq
                rw [HDR.out, putS_le _ _ _ HLE.out, if_pos HE.out] at e
                rw [e]; simp
              · intro z hz
                have hz' : z ∈ ys ∨ z = ⟨⟨xn, xs0, xb⟩, xA, xc⟩ ∨ z = ⟨⟨yn, ysf, yb⟩, yA, yc⟩ := by (try simp at hz); rcases hz with h | h <;> simp [h]
                rcases hz' with hz | hz | hz
                · exact HP.out.mem z hz
                · exact .inl hz
                · rw [hz]; exact .inr (List.mem_of_getElem? HY.out)
            case measure => simp [intOf]; omega
          · have hs : (yn.toList == xn.toList) = false := beq_eq_false_iff_ne.2 fun e => he (keyF_inj (by rwa [ByteArray.toList_eq, ByteArray.toList_eq] at e))
            have HE := Lib.hid he
            clear he
            go_wp2_with fail
            go_quiet (fail)
            go_wp2_with (at_builtin
                         refine wpList_appF _ rfl (.tmp 46) (.tmp 54) rfl w0.heap.size (.slice pA (ys.length + 1) pc) (ys.length + 1) (ys ++ [⟨⟨xn, xs0, xb⟩, xA, xc⟩]) rfl ((own_mod (S := Non) POWN.out ((Mod.refl Non pw).drewN _) (fun _ _ h => h)).alloc _) _ 1 1 [⟨⟨yn, ysf, yb⟩, yA, yc⟩] rfl (one_file _ _ ⟨⟨yn, ysf, yb⟩, yA, yc⟩) (by simp; omega) (by simp; omega) ?_
                         intro qA qc qw qhc qhcm qown qg qat)
            have MQ : Hid (Mod Non w0 qw) := ((MP.out.drewN _).alloc _).trans (Mod.of_grown (S := fun g => (Value.slice pA (ys.length + 1) pc).ownBlock = some g) qg fun _ h => h) fun g hg => .inr (prow g hg).1
            clear qg qat
            go_roundw
            case rel =>
              refine ⟨k + 1, ys ++ [⟨⟨xn, xs0, xb⟩, xA, xc⟩] ++ [⟨⟨yn, ysf, yb⟩, yA, yc⟩], true, by omega, by simp; omega, by go_num, rfl, by simpa using qown, ⟨MQ.out, ?_, ?_⟩⟩
              · have e := HP.out.eq
                rw [HDR.out, putS_le _ _ _ HLE.out, if_neg HE.out] at e
                rw [e]; simp
              · intro z hz
                have hz' : z ∈ ys ∨ z = ⟨⟨xn, xs0, xb⟩, xA, xc⟩ ∨ z = ⟨⟨yn, ysf, yb⟩, yA, yc⟩ := by (try simp at hz); rcases hz with h | h | h <;> simp [h]
                rcases hz' with hz | hz | hz
                · exact HP.out.mem z hz
                · exact .inl hz
                · rw [hz]; exact .inr (List.mem_of_getElem? HY.out)
            case measure => simp [intOf]; omega
        · have hbl : Op.bytesLess yn.toList xn.toList = true := by rw [bl_name]; exact decide_eq_true (List.not_le.1 hle)
          have hs : (yn.toList == xn.toList) = false := beq_eq_false_iff_ne.2 fun e => hle (by show xn.data.toList ≤ yn.data.toList; rw [← ByteArray.toList_eq, ← ByteArray.toList_eq, e]; exact List.le_refl _)
          have HLE := Lib.hid hle
          clear hle
          go_wp2_with fail
          go_quiet (fail)
          clear hbl
          go_wp2_with fail
          go_quiet (fail)
          go_wp2_with (at_builtin
                       refine wpList_appF _ rfl (.tmp 46) (.tmp 54) rfl w0.heap.size (.slice Av ys.length cv) ys.length ys rfl ((own_mod (S := Non) HOWN.out ((Mod.refl Non wr).drewN _) (fun _ _ h => h)).alloc _) _ 1 1 [⟨⟨yn, ysf, yb⟩, yA, yc⟩] rfl (one_file _ _ ⟨⟨yn, ysf, yb⟩, yA, yc⟩) (by simp; omega) (by simp; omega) ?_
                       intro qA qc qw qhc qhcm qown qg qat)
          have MQ : Hid (Mod Non w0 qw) := ((HP.out.mod.drewN _).alloc _).trans (Mod.of_grown (S := fun g => (Value.slice Av ys.length cv).ownBlock = some g) qg fun _ h => h) fun g hg => .inr (hrow g hg).1
          clear qg qat
          go_roundw
          case rel =>
            refine ⟨k + 1, ys ++ [⟨⟨yn, ysf, yb⟩, yA, yc⟩], false, by omega, by simp; omega, by go_num, rfl, by simpa using qown, ⟨MQ.out, ?_, ?_⟩⟩
            · have e := HP.out.eq
              rw [HDR.out, putS_gt _ _ _ HLE.out] at e
              rw [e]; simp
            · intro z hz
              have hz' : z ∈ ys ∨ z = ⟨⟨xn, xs0, xb⟩, xA, xc⟩ ∨ z = ⟨⟨yn, ysf, yb⟩, yA, yc⟩ := by (try simp at hz); rcases hz with h | h <;> simp [h]
              rcases hz' with hz | hz | hz
              · exact HP.out.mem z hz
              · exact .inl hz
              · rw [hz]; exact .inr (List.mem_of_getElem? HY.out)
          case measure => simp [intOf]; omega
      | true =>
        simp only [Bool.toNat_true] at hyl
        go_wp2_with fail
        go_quiet (fail)
        by_cases he : yn = xn
        · have hs : (yn.toList == xn.toList) = true := by rw [he]; simp
          have HE := Lib.hid he
          clear he
          go_wp2_with fail
          go_quiet (fail)
          go_wp2_with fail
          go_roundw
          case rel =>
            refine ⟨k + 1, ys, true, by omega, by simp; omega, by go_num, rfl, own_mod (S := Non) HOWN.out ((Mod.refl Non wr).drewN _) (fun _ _ h => h), ⟨HP.out.mod.drewN _, ?_, ?_⟩⟩
            · have e := HP.out.eq
              rw [HDR.out, putS_tr, if_pos HE.out] at e
              rw [e]; simp
            · intro z hz
              have hz' : z ∈ ys ∨ z = ⟨⟨xn, xs0, xb⟩, xA, xc⟩ ∨ z = ⟨⟨yn, ysf, yb⟩, yA, yc⟩ := by (try simp at hz); exact .inl hz
              rcases hz' with hz | hz | hz
              · exact HP.out.mem z hz
              · exact .inl hz
              · rw [hz]; exact .inr (List.mem_of_getElem? HY.out)
          case measure => simp [intOf]; omega
        · have hs : (yn.toList == xn.toList) = false := beq_eq_false_iff_ne.2 fun e => he (keyF_inj (by rwa [ByteArray.toList_eq, ByteArray.toList_eq] at e))
          have HE := Lib.hid he
          clear he
          go_wp2_with fail
          go_quiet (fail)
          go_wp2_with (at_builtin
                       refine wpList_appF _ rfl (.tmp 46) (.tmp 54) rfl w0.heap.size (.slice Av ys.length cv) ys.length ys rfl ((own_mod (S := Non) HOWN.out ((Mod.refl Non wr).drewN _) (fun _ _ h => h)).alloc _) _ 1 1 [⟨⟨yn, ysf, yb⟩, yA, yc⟩] rfl (one_file _ _ ⟨⟨yn, ysf, yb⟩, yA, yc⟩) (by simp; omega) (by simp; omega) ?_
                       intro qA qc qw qhc qhcm qown qg qat)
          have MQ : Hid (Mod Non w0 qw) := ((HP.out.mod.drewN _).alloc _).trans (Mod.of_grown (S := fun g => (Value.slice Av ys.length cv).ownBlock = some g) qg fun _ h => h) fun g hg => .inr (hrow g hg).1
          clear qg qat
          go_roundw
          case rel =>
            refine ⟨k + 1, ys ++ [⟨⟨yn, ysf, yb⟩, yA, yc⟩], true, by omega, by simp; omega, by go_num, rfl, by simpa using qown, ⟨MQ.out, ?_, ?_⟩⟩
            · have e := HP.out.eq
              rw [HDR.out, putS_tr, if_neg HE.out] at e
              rw [e]; simp
            · intro z hz
              have hz' : z ∈ ys ∨ z = ⟨⟨xn, xs0, xb⟩, xA, xc⟩ ∨ z = ⟨⟨yn, ysf, yb⟩, yA, yc⟩ := by (try simp at hz); rcases hz with h | h <;> simp [h]
              rcases hz' with hz | hz | hz
              · exact HP.out.mem z hz
              · exact .inl hz
              · rw [hz]; exact .inr (List.mem_of_getElem? HY.out)
          case measure => simp [intOf]; omega
    · obtain rfl : k = n := by omega
      have hdrop : (xs.map (·.f)).drop k = [] := List.drop_eq_nil_of_le (by simp [HN.out])
      have HEQ : Hid (putS ⟨xn, xs0, xb⟩ false (xs.map (·.f)) = ys.map (·.f) ++ if done then [] else [⟨xn, xs0, xb⟩]) := by
        show _ = _
        rw [HP.out.eq, hdrop]
        rfl
      clear hdrop
      cases done with
      | true =>
        simp only [Bool.toNat_true] at hyl
        have hblk := (HR0.out.mod0 HP.out.mod).blk
        have c1x : wr.cell? ⟨r, 1, none⟩ = some (.slice A k c) := hblk.cell 1
        have f1x := hblk.frozen 1
        have HBLK := Lib.hid hblk
        clear hblk
        go_wp2_with fail
        go_end0
        refine ⟨rfl, put_end (x := ⟨⟨xn, xs0, xb⟩, xA, xc⟩) rfl HH1.out nd hE hBE hEl HM0.out HP.out.mod HBLK.out HOWN.out ?_ ?_ HHX.out hx1 hx2 hxr hrl⟩
        · rw [HEQ.out]; simp
        · exact fun z hz => HP.out.mem z hz
      | false =>
        simp only [Bool.toNat_false, Nat.add_zero] at hyl
        have hblk := (HR0.out.mod0 HP.out.mod).blk
        have c1x : wr.cell? ⟨r, 1, none⟩ = some (.slice A k c) := hblk.cell 1
        have b0r : wr.cell? ⟨w.heap.size, 0, none⟩ = some (.string xn) := (HBX.out.mod HP.out.mod fun h => h).cell 0
        have b1r : wr.cell? ⟨w.heap.size, 1, none⟩ = some (.int .i64 (xs0 : Int)) := (HBX.out.mod HP.out.mod fun h => h).cell 1
        have b2r : wr.cell? ⟨w.heap.size, 2, none⟩ = some (.slice xA xb.length xc) := (HBX.out.mod HP.out.mod fun h => h).cell 2
        clear hblk
        go_wp2_with (at_builtin
                     refine wpList_appF _ rfl (.tmp 58) (.tmp 60) rfl w0.heap.size (.slice Av ys.length cv) ys.length ys rfl (HOWN.out.alloc _) _ 1 1 [⟨⟨xn, xs0, xb⟩, xA, xc⟩] rfl (one_file _ _ ⟨⟨xn, xs0, xb⟩, xA, xc⟩) (by omega) (by simp; omega) ?_
                     intro pA pc pw phc phcm pown pg pat
                     have MP : Hid (Mod Non w0 pw) := (HP.out.mod.alloc _).trans (Mod.of_grown (S := fun g => (Value.slice Av ys.length cv).ownBlock = some g) pg fun _ h => h) fun g hg => .inr (hrow g hg).1
                     have hblk2 := (HR0.out.mod0 MP.out).blk
                     have c1p : pw.cell? ⟨r, 1, none⟩ = some (.slice A k c) := hblk2.cell 1
                     have f1p := hblk2.frozen 1
                     have HBLK := Lib.hid hblk2
                     have POWN := Lib.hid pown
                     clear hblk2 pg pat pown c1x b0r b1r b2r)
        go_end0
        refine ⟨rfl, put_end (x := ⟨⟨xn, xs0, xb⟩, xA, xc⟩) (ys := ys ++ [⟨⟨xn, xs0, xb⟩, xA, xc⟩]) (n' := ys.length + 1) (by simp) HH1.out nd hE hBE hEl HM0.out MP.out HBLK.out POWN.out ?_ ?_ HHX.out hx1 hx2 hxr hrl⟩
        · rw [HEQ.out]; simp
        · intro z hz
          rcases List.mem_append.1 hz with hz | hz
          · exact HP.out.mem z hz
          · simp only [List.mem_singleton] at hz
            exact .inl hz

end Go.Proofs.YtdpjnpjmokncdaaGreatDoor

/- The reference's disk: drop. -/
namespace Go.Proofs.YtdpjnpjmokncdaaGreatDoor
open Go.RowKit

/-- the end of drop: the new row in the place of the old one. -/
theorem drop_end {k : ByteArray} {E B : Nat → Prop} {r : Nat} {D : Dk} {w wr : World} {A : Option Addr} {n c : Nat} {xs ys : List Fc} {Av : Option Addr} {cv n' : Nat} (h1 : RkAt w B r D A n c xs) (nd : (D.files.map (·.name)).Nodup)
    (hE : E r) (hBE : ∀ k, B k → E k) (hEl : ∀ k, E k → k < w.heap.size) (m1 : Mod Non w wr) (hb : Blk wr r 72 #[.int .i64 D.n, .slice A n c, .int .i64 D.done, .int .i64 D.left, .bool D.off])
    (hown : wr.ownsRow w.heap.size 67 3 (.slice Av n' cv) n' (flat3 ys)) (hs : dropS k (xs.map (·.f)) = ys.map (·.f)) (hmem : ∀ y ∈ ys, y ∈ xs) (hr : r < w.heap.size) :
    ∃ E', RkIs (wr.setCell ⟨r, 1, none⟩ (.slice Av n' cv)) E' r { D with files := delF D.files k } ∧ Mod (fun k => k = r) w (wr.setCell ⟨r, 1, none⟩ (.slice Av n' cv)) ∧ ∀ k, E' k → E k ∨ w.heap.size ≤ k := by
  have hm : Mod (fun k => k = r) wr (wr.setCell ⟨r, 1, none⟩ (.slice Av n' cv)) := (Mod.refl (fun k => k = r) wr).set1 1 _
  have ho := own_slice hown
  obtain ⟨A', c', he, hc1, hc2⟩ := ho
  injection he with _ _ he
  subst he
  have hs1 := m1.size
  have hmx : maxLen = 9223372036854775807 := rfl
  have hbase := own_base hown
  have hrd := Rd.of_own3 hown
  have hsz : (wr.setCell ⟨r, 1, none⟩ (.slice Av n' cv)).heap.size = wr.heap.size := by simp [World.setCell]
  refine ⟨fun k => E k ∨ (w.heap.size ≤ k ∧ k < wr.heap.size), ⟨fun k => B k ∨ (w.heap.size ≤ k ∧ k < wr.heap.size), Av, n', cv, ys, ⟨hb.set_ 1 _, ?_, hc1, by omega, ?_, ?_, ?_, ?_⟩, .inl hE, fun k hk => hk.imp (hBE k) id, ?_⟩, (m1.non.trans hm fun k hk => .inl hk), fun k hk => hk.imp id fun h => h.1⟩
  · refine hrd.mod hm fun _ b hbk e => ?_
    have := hbase b hbk
    omega
  · show SortedOf (delF D.files k) _
    rw [← hs]
    exact h1.fs.del nd k
  · intro y hy
    obtain ⟨a1, a2, a3, a4⟩ := h1.byt y (hmem y hy)
    exact ⟨(a1.mod0 m1).mod hm fun _ b hbk e => h1.rB (e ▸ a4 b hbk), a2, a3, fun b hbk => .inl (a4 b hbk)⟩
  · intro b hbk
    have h3 := hbase b hbk
    refine .inr ⟨by omega, ?_⟩
    exact (hown.lt b (by rw [slice_blk]; exact hbk)).2
  · rintro (h | h)
    · exact h1.rB h
    · omega
  · intro k hk
    rw [hsz]
    rcases hk with hk | hk
    · have := hEl k hk; omega
    · exact hk.2

/-- between two rounds of drop. -/
structure DrM (w : World) (nm : ByteArray) (xs ys : List Fc) (k : Nat) (wr : World) : Prop where
  mod : Mod Non w wr
  eq : dropS nm ((xs.map (·.f)).take k) = ys.map (·.f)
  mem : ∀ y ∈ ys, y ∈ xs
theorem dropS_snoc {nm : ByteArray} {L : List Fl} {k : Nat} {f : Fl} (h : L[k]? = some f) : dropS nm (L.take (k + 1)) = dropS nm (L.take k) ++ if f.name = nm then [] else [f] := by
  rw [take_snoc' L k f h]
  unfold dropS
  rw [List.filter_append]
  by_cases he : f.name = nm
  · simp [he]
  · simp [he]

set_option maxRecDepth 100000 in
set_option maxHeartbeats 2000000 in
theorem dropR_any (nm : ByteArray) (E : Nat → Prop) (r : Nat) (D : Dk) (w : World) (h : RkIs w E r D) (nd : (D.files.map (·.name)).Nodup) (hl : D.files.length ≤ 100000000000) :
    Calls Tryz.prog 155 #[.pointer (some ⟨r, 0, none⟩), .string nm] w (RkPost E r { D with files := delF D.files nm } (.tuple #[]) w) := by
  obtain ⟨B, A, n, c, xs, h1, hE, hBE, hEl⟩ := h
  have hlen : xs.length = D.files.length := by have := h1.fs.perm.length_eq; simpa using this
  have hn := h1.len
  have hnc := h1.nc
  have hcm := h1.cm
  have hrl := h1.blk.lt
  have c1w : w.cell? ⟨r, 1, none⟩ = some (.slice A n c) := h1.blk.cell 1
  have hn2 : n ≤ 100000000000 := by omega
  have HN := Lib.hid hn
  have HR0 := Lib.hid h1
  clear hlen hn h1
  go_enter Tryz.func155, Tryz.ntmps155
  go_wp2_with fail
  clear c1w
  go_loopw [4, 5] (fun v i wr => ∃ (k : Nat) (ys : List Fc), k ≤ n ∧ ys.length ≤ k ∧ i = .int .i64 k ∧ wr.ownsRow w.heap.size 67 3 v ys.length (flat3 ys) ∧ Hid (DrM w nm xs ys k wr)) (fun _ i _ => n - (intOf i).toNat)
  case atStart => exact ⟨0, [], Nat.zero_le _, by simp, rfl, World.ownsRow_nil _ _ _ _, ⟨Mod.refl _ _, by simp [dropS], by simp⟩⟩
  case round =>
    obtain ⟨k, ys, hk, hyl, rfl, hown, HP⟩ := hrel
    obtain ⟨Av, cv, rfl, hcv, hcv2⟩ := own_slice hown
    have hrw : w.heap.size ≤ wr.heap.size := HP.out.mod.size
    have HOWN := Lib.hid hown
    have hrow := hown.lt
    clear hown
    by_cases hlt : k < n
    · obtain ⟨b, o, y, rfl, hy, g0, g1, g2⟩ := (HR0.out.mod0 HP.out.mod).row.file hlt
      have HY := Lib.hid hy
      obtain ⟨⟨yn, ysf, yb⟩, yA, yc⟩ := y
      simp only at g0 g1 g2
      have i1 : (0 : Int) ≤ (k : Int) := by omega
      have i2 : (k : Int) < (n : Int) := by omega
      have HSN := Lib.hid (dropS_snoc (nm := nm) (L := xs.map (·.f)) (k := k) (f := ⟨yn, ysf, yb⟩) (by rw [List.getElem?_map, HY.out]; rfl))
      have c1x : wr.cell? ⟨r, 1, none⟩ = some (.slice (some ⟨b, o, none⟩) n c) := (HR0.out.mod0 HP.out.mod).blk.cell 1
      clear hy
      by_cases he : yn = nm
      · have hs : (yn.toList == nm.toList) = true := by rw [he]; simp
        have HE := Lib.hid he
        clear he
        go_wp2_with fail
        go_roundw
        case rel =>
          refine ⟨k + 1, ys, by omega, by omega, by go_num, HOWN.out, ⟨HP.out.mod, ?_, HP.out.mem⟩⟩
          rw [HSN.out, HP.out.eq, if_pos (show yn = nm from HE.out), List.append_nil]
        case measure => simp [intOf]; omega
      · have hs : (yn.toList == nm.toList) = false := beq_eq_false_iff_ne.2 fun e => he (keyF_inj (by rwa [ByteArray.toList_eq, ByteArray.toList_eq] at e))
        have HE := Lib.hid he
        clear he
        go_wp2_with (at_builtin
                     refine wpList_appF _ rfl (.tmp 25) (.tmp 33) rfl w.heap.size (.slice Av ys.length cv) ys.length ys rfl (HOWN.out.alloc _) _ 1 1 [⟨⟨yn, ysf, yb⟩, yA, yc⟩] rfl (one_file _ _ ⟨⟨yn, ysf, yb⟩, yA, yc⟩) (by omega) (by simp; omega) ?_
                     intro qA qc qw qhc qhcm qown qg qat)
        have MQ : Hid (Mod Non w qw) := (HP.out.mod.alloc _).trans (Mod.of_grown (S := fun g => (Value.slice Av ys.length cv).ownBlock = some g) qg fun _ h => h) fun g hg => .inr (hrow g hg).1
        clear qg qat
        go_roundw
        case rel =>
          refine ⟨k + 1, ys ++ [⟨⟨yn, ysf, yb⟩, yA, yc⟩], by omega, by simp; omega, by go_num, by simpa using qown, ⟨MQ.out, ?_, ?_⟩⟩
          · rw [HSN.out, HP.out.eq, if_neg (show ¬ yn = nm from HE.out)]; simp
          · intro z hz
            rcases List.mem_append.1 hz with hz | hz
            · exact HP.out.mem z hz
            · simp only [List.mem_singleton] at hz
              rw [hz]; exact List.mem_of_getElem? HY.out
        case measure => simp [intOf]; omega
    · obtain rfl : k = n := by omega
      have hblk := (HR0.out.mod0 HP.out.mod).blk
      have c1x : wr.cell? ⟨r, 1, none⟩ = some (.slice A k c) := hblk.cell 1
      have f1x := hblk.frozen 1
      have HBLK := Lib.hid hblk
      clear hblk
      go_wp2_with fail
      go_end0
      refine ⟨rfl, drop_end (k := nm) HR0.out nd hE hBE hEl HP.out.mod HBLK.out HOWN.out ?_ HP.out.mem hrl⟩
      have := HP.out.eq
      rwa [List.take_of_length_le (by simp [HN.out])] at this

end Go.Proofs.YtdpjnpjmokncdaaGreatDoor

/- The reference's disk: Read, Remove. -/
namespace Go.Proofs.YtdpjnpjmokncdaaGreatDoor
open Go.RowKit

theorem own_empty (w : World) (e : TypeId) (s : Nat) : (w.alloc (.cells #[] e)).ownsRow w.heap.size e s (.slice (some ⟨w.heap.size, 0, none⟩) 0 0) 0 [] :=
  ⟨by simp, .inr ⟨w.heap.size, 0, #[], rfl, Nat.le_refl _, heap_alloc_new w _, Nat.le_refl _, by simp [maxLen], by simp, by simp⟩⟩
theorem RkIs.like {w : World} {E : Nat → Prop} {r : Nat} {D D' : Dk} (h : RkIs w E r D) (h1 : D'.n = D.n) (h2 : D'.files = D.files) (h3 : D'.done = D.done) (h4 : D'.left = D.left) (h5 : D'.off = D.off) : RkIs w E r D' := by
  obtain ⟨B, A, n, c, xs, a, b⟩ := h
  exact ⟨B, A, n, c, xs, ⟨by rw [h1, h3, h4, h5]; exact a.blk, a.row, a.nc, a.cm, by rw [h2]; exact a.fs, a.byt, a.rowB, a.rB⟩, b⟩
theorem find_len {D : Dk} (ok : DkOk D) {nm : ByteArray} {f : Fl} (hf : findF D.files nm = some f) : f.bytes.length ≤ 1099511627776 ∧ costF f ≤ D.used := by
  have hc := find_cost hf
  have h1 := ok.us; have h2 := ok.u1; have h3 := ok.n1
  unfold costF at hc ⊢
  omega

set_option maxRecDepth 100000 in
set_option maxHeartbeats 1000000 in
theorem readR_any (nm : ByteArray) (E : Nat → Prop) (r : Nat) (D : Dk) (w : World) (h : RkIs w E r D) (ok : DkOk D) (hs : nm.size ≤ 9223372036854775807) :
    Calls Tryz.prog 105 #[.pointer (some ⟨r, 0, none⟩), .string nm] w (RdPost D nm w) := by
  obtain ⟨B, A, n, c, xs, h1, hE, hBE, hEl⟩ := h
  by_cases hn : named nm = true
  · have HN := Lib.hid hn
    have HC := Lib.hid (at_any nm B r D A n c xs w h1)
    have HF := Lib.hid (h1.fs.find ok.nd nm)
    have c1 : w.cell? ⟨r, 1, none⟩ = some (.slice A n c) := h1.blk.cell 1
    have hnc := h1.nc
    have hcm := h1.cm
    have hrl := h1.blk.lt
    have HA := Lib.hid h1
    have HOK := Lib.hid ok
    clear hn h1 ok
    go_enter Tryz.func105, Tryz.ntmps105
    go_wp2_with fail
    refine (namedR_any nm _ hs).mono ?_
    rw [HN.out]
    rintro e w1 ⟨rfl, rfl⟩
    go_wp2_with fail
    refine HC.out.mono ?_
    rintro e w1 ⟨rfl, hp⟩
    rcases hp with ⟨hf, rfl⟩ | ⟨i, f, hi, hf, hnm, rfl⟩
    · rw [HF.out] at hf
      have HN2 := Lib.hid hf
      clear hf
      go_wp2_with fail
      go_ret2
      show RdPost D nm w _ _
      unfold RdPost
      rw [if_pos HN.out, HN2.out]
      exact ⟨rfl, Mod.refl _ _⟩
    · rw [HF.out] at hf
      have hfl := (find_len HOK.out hf).1
      have hil : i < n := by
        have := (List.getElem?_eq_some_iff.1 hi).1
        have h2 := HA.out.len
        simp at this; omega
      obtain ⟨b, o, y, rfl, hy, g0, g1, g2⟩ := HA.out.row.file hil
      have hyf : y.f = f := by rw [List.getElem?_map, hy] at hi; simpa using hi
      obtain ⟨hyr, hy1, hy2, _⟩ := HA.out.byt y (List.mem_of_getElem? hy)
      rw [hyf] at g2 hyr hy1
      have HYR := Lib.hid hyr
      have HFF := Lib.hid hf
      have hbl : b < w.heap.size := World.block_lt_of_cell? w _ g2
      have i0 : (0 : Int) ≤ (i : Int) := by omega
      have i1 : (i : Int) < (n : Int) := by omega
      clear hi hf hnm hy g0 g1 hyr hyf
      go_wp2_with (at_builtin
                   refine wpList_app8 bt _ rfl (.tmp 15) (.tmp 23) rfl w.heap.size (.slice (some ⟨w.heap.size, 0, none⟩) 0 0) 0 [] rfl (own_empty w 5 1) y.A f.bytes.length y.c f.bytes rfl (HYR.out.alloc _) f.bytes.length (by omega) f.bytes rfl (by omega) (by simp) ?_
                   intro pA pc pw phc pown pg pat)
      go_ret2
      have hm : Mod Non w pw := (((Mod.refl Non w).alloc _).trans (Mod.of_grown (S := fun g => (Value.slice (some ⟨w.heap.size, 0, none⟩) 0 0).ownBlock = some g) pg fun _ h => h) fun g hg => .inr (by simp [Value.ownBlock] at hg; omega))
      show RdPost D nm w _ _
      unfold RdPost
      rw [if_pos HN.out, HFF.out]
      exact ⟨pA, pc, rfl, pown, hm⟩
  · have hn' : named nm = false := by simpa using hn
    have HN := Lib.hid hn'
    have HP : Hid (∀ e w', RdPost D nm w e w' ↔ (e = .returned (.tuple #[.slice none 0 0, .int .i64 1]) ∧ Mod Non w w')) := fun e w' => by unfold RdPost; rw [if_neg hn]
    clear hn hn' h1 ok
    go_enter Tryz.func105, Tryz.ntmps105
    go_wp2_with fail
    refine (namedR_any nm _ hs).mono ?_
    rw [HN.out]
    rintro e w1 ⟨rfl, rfl⟩
    go_wp2_with fail
    go_ret2
    exact (HP.out _ _).2 ⟨rfl, Mod.refl _ _⟩

theorem RkIs.of_at {w w' : World} {B E : Nat → Prop} {r n c : Nat} {D : Dk} {A : Option Addr} {xs : List Fc} (h : RkAt w' B r D A n c xs) (hE : E r) (hBE : ∀ k, B k → E k) (hEl : ∀ k, E k → k < w.heap.size) (hm : Mod (fun k => k = r) w w') : RkIs w' E r D :=
  ⟨B, A, n, c, xs, h, hE, hBE, fun k hk => Nat.lt_of_lt_of_le (hEl k hk) hm.size⟩

set_option maxRecDepth 100000 in
set_option maxHeartbeats 1000000 in
theorem removeR_any (nm : ByteArray) (E : Nat → Prop) (r : Nat) (D : Dk) (w : World) (h : RkIs w E r D) (ok : DkOk D) (hs : nm.size ≤ 9223372036854775807) :
    Calls Tryz.prog 149 #[.pointer (some ⟨r, 0, none⟩), .string nm] w (RkPost E r (removeD D nm) (.int .i64 (removeE D nm)) w) := by
  have HH := Lib.hid h
  have hfl := files_len ok
  obtain ⟨B, A, n, c, xs, h1, hE, hBE, hEl⟩ := h
  have HA := Lib.hid h1
  have HOK := Lib.hid ok
  have l0 := ok.l0
  have l1 := ok.l1
  obtain ⟨nb, hnb⟩ : ∃ nb, named nm = nb := ⟨_, rfl⟩
  have HN := Lib.hid hnb
  have HR := Lib.hid (rightR_any nb B r D A n c xs w h1)
  obtain ⟨D', hD'⟩ : ∃ D', removeD D nm = D' := ⟨_, rfl⟩
  obtain ⟨E', hE'⟩ : ∃ E', removeE D nm = E' := ⟨_, rfl⟩
  rw [hD', hE']
  have HD := Lib.hid hD'
  have HEE := Lib.hid hE'
  clear h1 ok hnb hD' hE'
  by_cases hgo : nb = true ∧ D.off = false
  · obtain ⟨rfl, hoff⟩ := hgo
    have HRV : Hid (rightE true D = 0) := by show _ = _; unfold rightE; rw [hoff]; simp
    have HOFF := Lib.hid hoff
    clear hoff
    go_enter Tryz.func149, Tryz.ntmps149
    go_wp2_with fail
    refine (namedR_any nm _ hs).mono ?_
    rw [HN.out]
    rintro e w1 ⟨rfl, rfl⟩
    go_wp2_with fail
    refine HR.out.mono ?_
    rw [HRV.out]
    rintro e w1 ⟨rfl, rfl⟩
    go_wp2_with fail
    refine (hasR_any nm E r D _ HH.out HOK.out.nd).mono ?_
    cases hf : findF D.files nm with
    | none =>
      have HV : Hid (D' = D ∧ E' = 3) := by
        show _ ∧ _
        rw [← HD.out, ← HEE.out]
        unfold removeD removeE
        rw [if_pos ⟨HN.out, HOFF.out⟩, if_pos HN.out, HOFF.out, hf]
        exact ⟨rfl, rfl⟩
      clear hf
      rintro e w1 ⟨rfl, rfl⟩
      go_wp2_with fail
      go_ret
      exact ⟨by rw [HV.out.2]; rfl, E, by rw [HV.out.1]; exact HH.out, Mod.refl _ _, fun k hk => .inl hk⟩
    | some f =>
      have hcost := (find_len HOK.out hf).2
      have u1 := HOK.out.u1
      have hc0 : 0 ≤ costF f := by unfold costF; omega
      have HS := Lib.hid (stepR_any B r D A n c xs w HA.out l0 l1)
      by_cases hz : D.left = 0
      · have HV : Hid (D' = stepD D ∧ E' = 5) := by
          show _ ∧ _
          have e5 : spendE D (-costF f) = 5 := by unfold spendE; rw [if_neg (by omega), if_pos hz]
          have h6 : spendD D (-costF f) = stepD D := by unfold spendD stepD; rw [if_neg (by omega), if_pos hz, if_pos hz]
          rw [← HD.out, ← HEE.out]
          constructor
          · unfold removeD
            rw [if_pos ⟨HN.out, HOFF.out⟩, hf]
            show (if spendE D (-costF f) = 0 then _ else _) = _
            rw [if_neg (by omega), h6]
          · unfold removeE
            rw [if_pos HN.out, if_neg (by rw [HOFF.out]; simp), hf]
            exact e5
        have hzb : decide (D.left ≠ 0) = false := by simp [hz]
        have HZ := Lib.hid hzb
        clear hf hzb hz
        rintro e w1 ⟨rfl, rfl⟩
        go_wp2_with fail
        refine HS.out.mono ?_
        rw [HZ.out]
        rintro e w2 ⟨rfl, hA2, hm2⟩
        have HA2 := Lib.hid hA2
        have HM2 := Lib.hid hm2
        clear hA2 hm2
        go_wp2_with fail
        go_ret
        exact ⟨by rw [HV.out.2]; rfl, E, by rw [HV.out.1]; exact RkIs.of_at HA2.out hE hBE hEl HM2.out, HM2.out, fun k hk => .inl hk⟩
      · have HV : Hid (E' = 0 ∧ D'.n = D.n ∧ D'.files = delF D.files nm ∧ D'.done = (stepD D).done ∧ D'.left = (stepD D).left ∧ D'.off = (stepD D).off) := by
          have e5 : spendE D (-costF f) = 0 := by unfold spendE; rw [if_neg (by omega), if_neg hz]
          have h7 : removeD D nm = { spendD D (-costF f) with files := delF D.files nm } := by
            unfold removeD
            rw [if_pos ⟨HN.out, HOFF.out⟩, hf]
            show (if spendE D (-costF f) = 0 then _ else _) = _
            rw [if_pos e5]
          have h8 : removeE D nm = 0 := by
            unfold removeE
            rw [if_pos HN.out, if_neg (by rw [HOFF.out]; simp), hf]
            exact e5
          have h9 : spendD D (-costF f) = { D with left := max (D.left - 1) (-1), done := wrap64 (D.done + 1), used := D.used + -costF f } := by unfold spendD; rw [if_neg (by omega), if_neg hz]
          have h10 : stepD D = { D with left := max (D.left - 1) (-1), done := wrap64 (D.done + 1) } := by unfold stepD; rw [if_neg hz]
          refine ⟨by rw [← HEE.out, h8], ?_⟩
          rw [← HD.out, h7, h9, h10]
          exact ⟨rfl, rfl, rfl, rfl, rfl⟩
        have hzb : decide (D.left ≠ 0) = true := by simp [hz]
        have HZ := Lib.hid hzb
        have HSF : Hid ((stepD D).files = D.files ∧ (stepD D).n = D.n) := by unfold stepD; split <;> exact ⟨rfl, rfl⟩
        clear hf hzb hz
        rintro e w1 ⟨rfl, rfl⟩
        go_wp2_with fail
        refine HS.out.mono ?_
        rw [HZ.out]
        rintro e w2 ⟨rfl, hA2, hm2⟩
        have HA2 := Lib.hid hA2
        have HM2 := Lib.hid hm2
        clear hA2 hm2
        go_wp2_with fail
        refine (dropR_any nm E r (stepD D) _ (RkIs.of_at HA2.out hE hBE hEl HM2.out) (by rw [HSF.out.1]; exact HOK.out.nd) (by rw [HSF.out.1]; omega)).mono ?_
        rintro e w3 ⟨rfl, E3, h3, hm3, hE3⟩
        have H3 := Lib.hid h3
        have HM3 := Lib.hid hm3
        have HE3 := Lib.hid hE3
        clear h3 hm3 hE3
        go_wp2_with fail
        go_ret
        refine ⟨by rw [HV.out.1]; rfl, E3, H3.out.like ?_ ?_ ?_ ?_ ?_, HM2.out.trans HM3.out fun k hk => .inl hk, fun k hk => (HE3.out k hk).imp id fun h => Nat.le_trans HM2.out.size h⟩
        · rw [HV.out.2.1]; exact HSF.out.2.symm
        · rw [HV.out.2.2.1]; show _ = delF (stepD D).files nm; rw [HSF.out.1]
        · exact HV.out.2.2.2.1
        · exact HV.out.2.2.2.2.1
        · exact HV.out.2.2.2.2.2
  · have HV : Hid (D' = D ∧ rightE nb D = E' ∧ E' ≠ 0) := by
      show _ ∧ _ ∧ _
      rw [← HD.out, ← HEE.out]
      unfold removeD removeE rightE
      rw [HN.out, if_neg hgo]
      cases nb with
      | false => simp
      | true =>
        cases hoff : D.off with
        | true => simp
        | false => exact absurd ⟨rfl, hoff⟩ hgo
    have hEb : (E' == 0) = false := by simpa using HV.out.2.2
    clear hgo
    go_enter Tryz.func149, Tryz.ntmps149
    go_wp2_with fail
    refine (namedR_any nm _ hs).mono ?_
    rw [HN.out]
    rintro e w1 ⟨rfl, rfl⟩
    go_wp2_with fail
    refine HR.out.mono ?_
    rw [HV.out.2.1]
    rintro e w1 ⟨rfl, rfl⟩
    go_wp2_with fail
    go_ret
    exact ⟨rfl, E, by rw [HV.out.1]; exact HH.out, Mod.refl _ _, fun k hk => .inl hk⟩

end Go.Proofs.YtdpjnpjmokncdaaGreatDoor

/- (*Disk).Rename, the walk: a file that is found. -/
namespace Go.Proofs.YtdpjnpjmokncdaaGreatDoor
open Go.RowKit

set_option maxRecDepth 100000 in
set_option maxHeartbeats 4000000 in
theorem rename_has (F : Nat → Prop) (d : Nat) (D : Dk) (a b : ByteArray) (f : Fl) (w : World) (h : DiskIs w F d D) (ok : DkOk D)
    (hna : named a = true) (hnb : named b = true) (hoff : D.off = false) (hf : findF D.files a = some f) (more E : Int) (D' : Dk) (hmore : moreR D a b = more) (hE : spendE D more = E)
    (hD : (if E = 0 then { spendD D more with files := putF (delF D.files a) { f with name := b } } else spendD D more) = D')
    (gl : Nat) (is ne : Bool) (hgl : gl ≤ 1099511627776)
    (hl2 : ∀ G m kvs, DkAt w G d m kvs D → ∃ (sn : ByteArray) (ss : Int) (Ag : Option Addr) (cg : Nat), gotten (lookKV kvs b) = .tuple #[.agg #[.string sn, .int .i64 ss, .slice Ag gl cg], .bool is])
    (hne1 : (a.toList == b.toList) = !ne) (hmv : more = (b.size : Int) - a.size - (if (is && ne) = true then 16 + (b.size : Int) + gl else 0)) :
    Calls Tryz.prog 41 #[.pointer (some ⟨d, 0, none⟩), .string a, .string b] w (DkPost F d D' (.int .i64 E) w) := by
  have HD := Lib.hid hD
  have HE := Lib.hid hE
  have hsa := named_size hna
  have hsb := named_size hnb
  have hlow : -D.used ≤ more := by
    have h1 := usedF_rename ok (b := b) hf
    have h2 := usedF_nonneg (putF (delF D.files a) { f with name := b })
    omega
  clear hD hE
  obtain ⟨G, m, kvs, hA, hFd, hFm, hGF, hFp, hFl⟩ := h
  obtain ⟨Af, cf, hg, hrf, hcf1, hcf2, hfG, hfn⟩ := found hA hf
  have hflen : f.bytes.length ≤ 1099511627776 := (find_len ok hf).1
  have HNA := Lib.hid hna
  have HNB := Lib.hid hnb
  have HV := Lib.hid hg
  obtain ⟨sn, ss, Ag, cg, hl3⟩ := hl2 G m kvs hA
  have HV2 := Lib.hid hl3
  have HA := Lib.hid hA
  have c2 : w.cell? ⟨d, 2, none⟩ = some (.map (some m)) := hA.blk.cell 2
  have hdl := hA.blk.lt
  have hml := hA.map.lt
  have HR : Hid (rightE true D = 0) := by show rightE true D = 0; simp [rightE, hoff]
  obtain ⟨fs, hfs⟩ : ∃ fs, f.safe = fs := ⟨_, rfl⟩
  obtain ⟨fb, hfb⟩ : ∃ fb, f.bytes = fb := ⟨_, rfl⟩
  have HFS := Lib.hid hfs
  have HFB := Lib.hid hfb
  rw [hfs] at HV
  rw [hfb] at HV hrf hflen hcf1
  clear hna hnb hoff hfn hg hA hf hl2 hl3 hmore hfs hfb
  obtain ⟨fl, hfl⟩ : ∃ fl, fb.length = fl := ⟨_, rfl⟩
  have HFL := Lib.hid hfl
  rw [hfl] at hflen hcf1 HV
  clear hfl
  cases is
  all_goals
    cases ne
    all_goals
      simp only [Bool.not_true, Bool.not_false] at hne1
      simp only [Bool.and_true, Bool.and_false, Bool.false_eq_true, if_false, if_true, Int.sub_zero] at hmv
      go_enter Tryz.func41, Tryz.ntmps41
      go_wp2_with (first
        | (go_at_call 52; (with_reducible refine (named_any a _ (by omega)).mono ?_); rintro e w' ⟨rfl, rfl⟩; rw [HNA.out])
        | (go_at_call 52; (with_reducible refine (named_any b _ (by omega)).mono ?_); rintro e w' ⟨rfl, rfl⟩; rw [HNB.out])
        | (go_at_call 51; refine (right_any true G d m kvs D _ HA.out).mono ?_; rintro e w' ⟨rfl, rfl⟩; rw [HR.out])
        | (go_at_call 53; refine (cost_any b gl _ (by omega) (by omega)).mono ?_; rintro e w' ⟨rfl, rfl⟩)
        | (at_lookup; refine wpList_look _ rfl (.tmp 29) (.tmp 30) true rfl strKey HA.out.map Tryz.underlying77 Tryz.underlying9 (zeroFile _) a rfl rfl _ HV.out ?_)
        | (at_lookup; refine wpList_look _ rfl (.tmp 45) (.tmp 46) true rfl strKey (HA.out.map.mod0' ((Mod.refl Non w).alloc _)) Tryz.underlying77 Tryz.underlying9 (zeroFile _) b rfl rfl _ HV2.out ?_)
        | fail)
      rw [← hmv]
      refine (spend_any G d m kvs D more _ (HA.out.mod0 (((Mod.refl Non w).alloc _).alloc _)) ok hlow).mono ?_
      rintro e w1 ⟨rfl, hA1, hm1⟩
      rw [HE.out]
      have HA1 := Lib.hid hA1
      have HM1 := Lib.hid hm1
      have hbox : Blk w1 w.heap.size 58 #[.string a, .int .i64 (fs : Int), .slice Af fl cf] := ((Blk.new w _ _).alloc _).mod hm1 (by omega)
      have HBX := Lib.hid hbox
      have hsz : w.heap.size < w1.heap.size := hbox.lt
      have c21 : w1.cell? ⟨d, 2, none⟩ = some (.map (some m)) := hA1.blk.cell 2
      have hmw1 : Hid (Mod F w w1) := (((Mod.refl F w).alloc _).alloc _).trans HM1.out (fun k hk => by subst hk; exact .inl hFd)
      clear hA1 hm1 c2 hbox
      by_cases hE0 : E = 0
      · have HD' : Hid ({ spendD D more with files := putF (delF D.files a) { f with name := b } } = D') := by
          have := HD.out
          rwa [if_pos hE0] at this
        subst hE0
        clear HD
        go_wp2_with (first
          | (at_builtin; fail)
          | (refine wpList_del _ rfl (.tmp 71) (.tmp 72) rfl strKey HA1.out.map Tryz.underlying77 Tryz.underlying9 a rfl rfl ?_
             intro w3 hp3 hm3
             have hnm3 : w.heap.size ≠ m := by omega
             have hbx3 := HBX.out.mod hm3 hnm3
             have f03 := hbx3.frozen 0
             have b03 : w3.cell? ⟨w.heap.size, 0, none⟩ = some (.string a) := hbx3.cell 0
             have HB3 := Lib.hid hbx3
             have HA3 := Lib.hid (HA1.out.dropped hp3 hm3)
             have HM3 := Lib.hid hm3
             clear hp3 hm3 hbx3)
          | fail)
        have hm4 : Mod (fun k => k = w.heap.size) w3 (w3.setCell ⟨w.heap.size, 0, none⟩ (.string b)) := (Mod.refl _ _).set1 0 _
        have HM4 := Lib.hid hm4
        have hA4 := HA3.out.mod hm4 (by omega) (by omega) (fun k hk => by have := hFl k (hGF k hk); omega) (by have := HA.out.lay.lt; omega)
        have HA4 := Lib.hid hA4
        have hbx4 := HB3.out.set_ 0 (.string b)
        have c24 : (w3.setCell ⟨w.heap.size, 0, none⟩ (.string b)).cell? ⟨d, 2, none⟩ = some (.map (some m)) := hA4.blk.cell 2
        have b04 : (w3.setCell ⟨w.heap.size, 0, none⟩ (.string b)).cell? ⟨w.heap.size, 0, none⟩ = some (.string b) := hbx4.cell 0
        have b14 : (w3.setCell ⟨w.heap.size, 0, none⟩ (.string b)).cell? ⟨w.heap.size, 1, none⟩ = some (.int .i64 (fs : Int)) := hbx4.cell 1
        have b24 : (w3.setCell ⟨w.heap.size, 0, none⟩ (.string b)).cell? ⟨w.heap.size, 2, none⟩ = some (.slice Af fl cf) := hbx4.cell 2
        have hs4 : w3.heap.size ≤ (w3.setCell ⟨w.heap.size, 0, none⟩ (.string b)).heap.size := by simp
        clear hm4 hA4 hbx4 f03 b03
        generalize w3.setCell ⟨w.heap.size, 0, none⟩ (.string b) = w4 at *
        have tok : True := trivial
        go_region_held3 (fun w' => w'.cell? ⟨d, 2, none⟩ = some (.map (some m)) ∧ w'.cell? ⟨w.heap.size, 0, none⟩ = some (.string b) ∧ w'.cell? ⟨w.heap.size, 1, none⟩ = some (.int .i64 (fs : Int)) ∧ w'.cell? ⟨w.heap.size, 2, none⟩ = some (.slice Af fl cf))
          (first | go_keep)
          (first
            | (have _t := tok
               obtain ⟨w5, hrun, hp5, hm5⟩ := MapAt.run_put (P := Tryz.prog) strKey (HA4.out.map.mod0' ((Mod.refl Non w4).drew)) Tryz.underlying77 Tryz.underlying9 b (.agg #[.string b, .int .i64 (fs : Int), .slice Af fl cf])
               rw [hrun]
               clear hrun
               have c25 := hm5.cell c24 (p := ⟨d, 2, none⟩) (fun e => HA1.out.dm e)
               have b05 := hm5.cell b04 (p := ⟨w.heap.size, 0, none⟩) (fun e => by simp only at e; omega)
               have b15 := hm5.cell b14 (p := ⟨w.heap.size, 1, none⟩) (fun e => by simp only at e; omega)
               have b25 := hm5.cell b24 (p := ⟨w.heap.size, 2, none⟩) (fun e => by simp only at e; omega)
               simp only [Result.andThen, Oper.upon]))
        go_wp2_with fail
        go_ret
        have hm5' : Mod (fun i => i = m) w4 w5 := ((Mod.refl _ _).drew).trans hm5 fun _ h => .inl h
        have hfl : FlAt w5 G (b, .agg #[.string b, .int .i64 (fs : Int), .slice Af fl cf]) { f with name := b } := by
          refine ⟨rfl, Af, cf, ?_, ?_, ?_, hcf2, hfG⟩
          · simp only [HFS.out, HFB.out, HFL.out]
          · simp only [HFB.out]
            have r1 : Rd w1 Af fb.length (by8 fb) := ((hrf.alloc _).alloc _).mod HM1.out fun _ b hb e => (HA.out.gd b (hfG b hb)).1 e
            have r3 : Rd w3 Af fb.length (by8 fb) := r1.mod HM3.out fun _ b hb e => (HA.out.gd b (hfG b hb)).2 e
            have r4 := r3.mod HM4.out fun _ b hb e => by have := hFl b (hGF b (hfG b hb)); omega
            exact r4.mod hm5' fun _ b hb e => (HA.out.gd b (hfG b hb)).2 e
          · simp only [HFB.out, HFL.out]; exact hcf1
        have hA5 := HA4.out.stored (f := { f with name := b }) (B := w1.heap.size) hp5 hm5' (fun k hk => hk) hfl (fun k hk => .inl hk) HA1.out.blk.lt HA1.out.map.lt
        simp only [spendD_files] at hA5
        refine ⟨rfl, dk_fin (by rw [← HD'.out]; exact hA5) hFd hFm hFp hFl (fun k hk => .inl (hGF k hk)) ?_ HA.out.lay.lt⟩
        exact ((hmw1.out.trans HM3.out fun k hk => by subst hk; exact .inl hFm).trans HM4.out (fun k hk => by subst hk; exact .inr (Nat.le_refl _))).trans hm5' (fun k hk => by subst hk; exact .inl hFm)
      · have HD' : Hid (spendD D more = D') := by
          have := HD.out
          rwa [if_neg hE0] at this
        have hEb : (E == 0) = false := by simp [hE0]
        clear HD hE0
        go_wp2_with fail
        go_ret
        exact ⟨rfl, dk_fin (by rw [← HD'.out]; exact HA1.out) hFd hFm hFp hFl (fun k hk => .inl (hGF k hk)) hmw1.out HA.out.lay.lt⟩

/-- (*Disk).Rename. -/
theorem rename_any (F : Nat → Prop) (d : Nat) (D : Dk) (a b : ByteArray) (w : World) (h : DiskIs w F d D) (ok : DkOk D) (hsa : a.size ≤ 9223372036854775807) (hsb : b.size ≤ 9223372036854775807) :
    Calls Tryz.prog 41 #[.pointer (some ⟨d, 0, none⟩), .string a, .string b] w (DkPost F d (renameD D a b) (.int .i64 (renameE D a b)) w) := by
  by_cases hna : named a = true
  · by_cases hnb : named b = true
    · by_cases hoff : D.off = true
      · rw [show renameE D a b = 5 by unfold renameE; rw [if_pos ⟨hna, hnb⟩, if_pos hoff], show renameD D a b = D by unfold renameD; rw [if_neg (by rw [hoff]; simp)]]
        exact rename_bad F d D a b w h hsa hsb 5 (.inr (.inr (.inl ⟨hna, hnb, hoff, rfl⟩)))
      · have hoff' : D.off = false := by simpa using hoff
        cases hf : findF D.files a with
        | none =>
          rw [show renameE D a b = 3 by unfold renameE; rw [if_pos ⟨hna, hnb⟩, if_neg hoff, hf], show renameD D a b = D by unfold renameD; rw [if_pos ⟨hna, hnb, hoff'⟩, hf]]
          exact rename_bad F d D a b w h hsa hsb 3 (.inr (.inr (.inr ⟨hna, hnb, hoff', hf, rfl⟩)))
        | some f =>
          have hE : renameE D a b = spendE D (moreR D a b) := by unfold renameE; rw [if_pos ⟨hna, hnb⟩, if_neg hoff, hf]
          have hD : renameD D a b = (if spendE D (moreR D a b) = 0 then { spendD D (moreR D a b) with files := putF (delF D.files a) { f with name := b } } else spendD D (moreR D a b)) := by
            unfold renameD
            rw [if_pos ⟨hna, hnb, hoff'⟩, hf]
          rw [hE, hD]
          have hbq : (a.toList == b.toList) = !decide (a ≠ b) := by
            by_cases e : a = b
            · subst e; simp
            · rw [decide_eq_true e, beq_eq_false_iff_ne.2]
              · rfl
              · intro e2
                rw [ByteArray.toList_eq, ByteArray.toList_eq] at e2
                exact e (keyF_inj e2)
          cases hg : findF D.files b with
          | none =>
            refine rename_has F d D a b f w h ok hna hnb hoff' hf _ _ _ rfl rfl rfl 0 false (decide (a ≠ b)) (by omega) (fun G m kvs hA => ⟨_, _, _, _, lost hA hg⟩) hbq ?_
            unfold moreR
            rw [hg]
            simp
          | some g =>
            have hgl := (find_len ok hg).1
            have hgn := find_name hg
            refine rename_has F d D a b f w h ok hna hnb hoff' hf _ _ _ rfl rfl rfl g.bytes.length true (decide (a ≠ b)) hgl (fun G m kvs hA => ?_) hbq ?_
            · obtain ⟨Ag, cg, hv, _⟩ := found hA hg
              exact ⟨_, _, _, _, hv⟩
            · unfold moreR
              rw [hg]
              by_cases e : a = b
              · simp [e]
              · simp only [Bool.true_and, decide_eq_true_eq]
                rw [if_neg e, if_pos e]
                unfold costF
                rw [hgn]
    · rw [show renameE D a b = 1 by unfold renameE; rw [if_neg (fun h => hnb h.2)], show renameD D a b = D by unfold renameD; rw [if_neg (fun h => hnb h.2.1)]]
      exact rename_bad F d D a b w h hsa hsb 1 (.inr (.inl ⟨hna, by simpa using hnb, rfl⟩))
  · rw [show renameE D a b = 1 by unfold renameE; rw [if_neg (fun h => hna h.1)], show renameD D a b = D by unfold renameD; rw [if_neg (fun h => hna h.1)]]
    exact rename_bad F d D a b w h hsa hsb 1 (.inl ⟨by simpa using hna, rfl⟩)

end Go.Proofs.YtdpjnpjmokncdaaGreatDoor

/- What a crash leaves of the files in the order of their names. Plain. -/
namespace Go.Proofs.YtdpjnpjmokncdaaGreatDoor
open Go.RowKit

def crashF (f : Fl) (p : Option Int) : Fl := ⟨f.name, keepC f p, f.bytes.take (keepC f p)⟩
def crashS (picks : List Int) : Nat → List Fl → List Fl
  | _, [] => []
  | k, f :: r => crashF f picks[k]? :: crashS picks (k + 1) r
theorem crashS_names (picks : List Int) : ∀ (k : Nat) (L : List Fl), (crashS picks k L).map (·.name) = L.map (·.name)
  | _, [] => rfl
  | k, f :: r => by rw [crashS, List.map_cons, List.map_cons, crashS_names]; rfl
theorem crashS_get (picks : List Int) : ∀ (L : List Fl) (k i : Nat), (crashS picks k L)[i]? = L[i]?.map fun f => crashF f picks[k + i]?
  | [], _, _ => by simp [crashS]
  | f :: r, k, 0 => by simp [crashS]
  | f :: r, k, i + 1 => by
    rw [crashS, List.getElem?_cons_succ, List.getElem?_cons_succ, crashS_get picks r (k + 1) i, show k + 1 + i = k + (i + 1) by omega]
def notIn (M : List Fl) (nm : ByteArray) : Bool := M.all fun f => decide (f.name ≠ nm)
theorem notIn_iff {M : List Fl} {nm : ByteArray} : notIn M nm = true ↔ nm ∉ M.map (·.name) := by
  unfold notIn
  simp only [List.all_eq_true, decide_eq_true_eq, List.mem_map, not_exists, not_and]
theorem crashL_perm (picks : List Int) : ∀ (M : List Fl) (k : Nat) (D : Dk), (D.files.map (·.name)).Nodup → (M.map (·.name)).Nodup → (∀ f ∈ M, f ∈ D.files) →
    (crashL picks k (M.map (·.name)) D).files.Perm (crashS picks k M ++ D.files.filter fun g => notIn M g.name)
  | [], k, D, _, _, _ => by
    simp only [List.map_nil, crashL, crashS, List.nil_append]
    have e : D.files.filter (fun g => notIn [] g.name) = D.files := List.filter_eq_self.2 fun _ _ => rfl
    rw [e]
  | f :: r, k, D, nd, ndM, hM => by
    rw [List.map_cons] at ndM
    obtain ⟨n1, n2⟩ := List.nodup_cons.1 ndM
    have hf : findF D.files f.name = some f := (find_iff nd).2 ⟨hM f (.head _), rfl⟩
    have h1 : (crash1 D f.name picks[k]?).files = putF D.files (crashF f picks[k]?) := by unfold crash1; rw [hf]; rfl
    have hp : (crash1 D f.name picks[k]?).files.Perm (crashF f picks[k]? :: dropS f.name D.files) := by rw [h1]; exact putF_perm (crashF f picks[k]?) nd
    rw [List.map_cons, crashL, crashS]
    have ih := crashL_perm picks r (k + 1) (crash1 D f.name picks[k]?) (by rw [crash1_names]; exact nd) n2 (fun g hg => hp.mem_iff.2 (.tail _ (List.mem_filter.2 ⟨hM g (.tail _ hg), decide_eq_true fun e => n1 (List.mem_map.2 ⟨g, hg, e⟩)⟩)))
    refine ih.trans ?_
    have h2 := hp.filter fun g => notIn r g.name
    have h3 : (crashF f picks[k]? :: dropS f.name D.files).filter (fun g => notIn r g.name) = crashF f picks[k]? :: D.files.filter fun g => notIn (f :: r) g.name := by
      rw [List.filter_cons_of_pos (p := fun g : Fl => notIn r g.name) (a := crashF f picks[k]?) (l := dropS f.name D.files) (notIn_iff.2 n1)]
      congr 1
      unfold dropS
      rw [List.filter_filter]
      refine List.filter_congr fun g _ => ?_
      show (notIn r g.name && decide (g.name ≠ f.name)) = (decide (f.name ≠ g.name) && notIn r g.name)
      rw [Bool.and_comm]
      congr 1
      exact decide_eq_decide.2 ⟨fun h e => h e.symm, fun h e => h e.symm⟩
    rw [h3] at h2
    refine (h2.append_left (crashS picks (k + 1) r)).trans ?_
    exact List.perm_middle
theorem SortedOf.crash {D : Dk} {L : List Fl} (h : SortedOf D.files L) (nd : (D.files.map (·.name)).Nodup) (picks : List Int) : SortedOf (crashD D picks (L.map (·.name))).files (crashS picks 0 L) := by
  refine ⟨?_, ?_⟩
  · have := crashL_perm picks L 0 D nd (sorted_nodup h.sort) fun f hf => h.perm.mem_iff.1 hf
    rw [List.filter_eq_nil_iff.2 (fun g hg e => notIn_iff.1 e (List.mem_map.2 ⟨g, h.perm.mem_iff.2 hg, rfl⟩)), List.append_nil] at this
    exact this.symm
  · have h1 : (L.map keyF).Pairwise (· < ·) := List.Pairwise.map _ (fun _ _ h => h) h.sort
    have h2 : (crashS picks 0 L).map keyF = L.map keyF := by
      have := congrArg (List.map fun s : ByteArray => s.data.toList) (crashS_names picks 0 L)
      rw [List.map_map, List.map_map] at this
      exact this
    rw [← h2] at h1
    exact List.pairwise_map.1 h1

end Go.Proofs.YtdpjnpjmokncdaaGreatDoor
