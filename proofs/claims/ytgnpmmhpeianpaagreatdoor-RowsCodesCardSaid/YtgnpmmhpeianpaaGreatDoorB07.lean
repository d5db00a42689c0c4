/- skip.New; (*List).path over any function value that answers 'so'. -/
import Derived.Test.YtgnpmmhpeianpaaGreatDoorB03
import Derived.Test.YtgnpmmhpeianpaaGreatDoorB01
import Derived.BigQuiet
import Derived.Test.YtgnpmmhpeianpaaGreatDoorB02
import Derived.Deep.RegionLaw
namespace Go.Proofs.YtgnpmmhpeianpaaGreatDoor
open Go.RowKit

set_option maxRecDepth 100000 in
set_option maxHeartbeats 400000 in
theorem newL_any (w : World) : Calls Tryz.prog 68 #[] w fun e w' => e = .returned (.pointer (some ⟨w.heap.size, 0, none⟩)) ∧ w.alloc (.cells (lsCells [] 0 0) 210) = w' := by
  go_enter Tryz.func68, Tryz.ntmps68
  go_wp2
  go_ret
  exact ⟨rfl, rfl⟩

/-- where the path's end is, by height. -/
def pathV (l : Nat) (bs : List (Nat × Tw)) (k : Nat) : List Value := (List.range 12).map fun h => .pointer (some ⟨lastB l (bs.take k) h, 0, none⟩)
/-- what path has noted down to a height. -/
def pathTo (l : Nat) (bs : List (Nat × Tw)) (k q : Nat) : List Value := (List.range 12).map fun h => if q ≤ h then .pointer (some ⟨lastB l (bs.take k) h, 0, none⟩) else .pointer none
theorem pathTo_all (l : Nat) (bs : List (Nat × Tw)) (k : Nat) : pathTo l bs k 12 = List.replicate 12 (.pointer none) := by
  unfold pathTo
  simp [List.range, List.range.loop]
theorem pathTo_zero (l : Nat) (bs : List (Nat × Tw)) (k : Nat) : pathTo l bs k 0 = pathV l bs k := by
  unfold pathTo pathV
  simp
theorem pathTo_set (l : Nat) (bs : List (Nat × Tw)) (k q : Nat) (hq : q < 12) : (pathTo l bs k (q + 1)).toArray.setIfInBounds q (.pointer (some ⟨lastB l (bs.take k) q, 0, none⟩)) = (pathTo l bs k q).toArray := by
  apply Array.ext'
  simp only [Array.toList_setIfInBounds]
  refine List.ext_getElem? fun i => ?_
  rw [List.getElem?_set]
  unfold pathTo
  simp only [List.length_map, List.length_range, List.getElem?_map]
  by_cases hi : i < 12
  · rw [List.getElem?_range hi]
    simp only [Option.map_some]
    by_cases h : q = i
    · subst h
      simp [hq]
    · rw [if_neg h]
      by_cases h2 : q ≤ i
      · rw [if_pos (show q + 1 ≤ i by omega), if_pos h2]
      · rw [if_neg (show ¬ q + 1 ≤ i by omega), if_neg h2]
  · have hn : (List.range 12)[i]? = none := by simp; omega
    rw [hn]
    split
    · omega
    · rfl

/-- where a pointer stands. -/
def idxV (l : Nat) (bs : List (Nat × Tw)) : Value → Nat
  | .pointer (some a) => (l :: bs.map (·.1)).idxOf a.block
  | _ => 0
theorem idxOf_get {L : List Nat} (hn : L.Nodup) : ∀ {i : Nat} {b : Nat}, L[i]? = some b → L.idxOf b = i := by
  induction L with
  | nil => intro i b h; simp at h
  | cons a r ih =>
    intro i b h
    rw [List.nodup_cons] at hn
    cases i with
    | zero =>
      simp only [List.getElem?_cons_zero, Option.some.injEq] at h
      subst h
      simp
    | succ j =>
      rw [List.getElem?_cons_succ] at h
      have hm := List.mem_of_getElem? h
      have hne : (a == b) = false := by simpa using fun e : a = b => hn.1 (e ▸ hm)
      rw [List.idxOf_cons, hne, ih hn.2 h]
      rfl
theorem idxV_pos {w : World} {G : Nat → Prop} {l : Nat} {bs : List (Nat × Tw)} (H : LsAt w G l bs) {i : Nat} (hi : i ≤ bs.length) : idxV l bs (.pointer (some ⟨posB l bs i, 0, none⟩)) = i := by
  refine idxOf_get (List.nodup_cons.2 ⟨H.lb, H.nd⟩) ?_
  cases i with
  | zero => rfl
  | succ j =>
    have hj : j < bs.length := by omega
    rw [List.getElem?_cons_succ, List.getElem?_map, List.getElem?_eq_getElem hj]
    unfold posB
    simp only [List.getElem?_eq_getElem hj, Option.map_some]

theorem pathTo_get (l : Nat) (bs : List (Nat × Tw)) (k q : Nat) {r : Nat} (hr : r < 12) : ∃ v, (pathTo l bs k q).toArray[r]? = some v := by
  refine ⟨if q ≤ r then .pointer (some ⟨lastB l (bs.take k) r, 0, none⟩) else .pointer none, ?_⟩
  rw [List.getElem?_toArray]
  unfold pathTo
  rw [List.getElem?_map, List.getElem?_range hr]
  rfl
theorem pathV_size (l : Nat) (bs : List (Nat × Tw)) (k : Nat) : (pathV l bs k).toArray.size = 12 := by simp [pathV]
theorem pathV_one (l : Nat) (bs : List (Nat × Tw)) (k : Nat) : (pathV l bs k).toArray.all (·.oneCell') = true := by
  rw [Array.all_eq_true_iff_forall_mem]
  intro x hx
  simp only [pathV, List.mem_toArray, List.mem_map] at hx
  obtain ⟨_, _, rfl⟩ := hx
  rfl
set_option maxRecDepth 100000 in
set_option maxHeartbeats 2000000 in
theorem path_any (G : Nat → Prop) (l : Nat) (bs : List (Nat × Tw)) (k : Nat) (w : World) (H : LsAt w G l bs) (_hk : k ≤ bs.length) (hh : ∀ p ∈ bs, p.2.h ≤ 12) (g : Nat) (lb : Array Value) (P : En → Bool)
    (eg : ∀ args w, (callFunc g args).run Tryz.prog w = .ok (.enter g args) w)
    (hP : ∀ (j : Nat) p, bs[j]? = some p → P p.2.e = decide (j < k))
    (hso : ∀ W e A B c d, Mod Non w W → EnOk W e A B c d → Calls Tryz.prog g (#[enVal e A B c d] ++ lb) W fun e' w' => e' = .returned (.bool (P e)) ∧ Mod Non W w') :
    Calls Tryz.prog 193 #[.pointer (some ⟨l, 0, none⟩), .func (.func g) #[] lb] w fun e w' => e = .returned (.agg (pathV l bs k).toArray) ∧ Mod Non w w' := by
  have hl : l < w.heap.size := H.blk.lt
  have hbl : ∀ i, posB l bs i < w.heap.size := fun i => by
    cases i with
    | zero => exact hl
    | succ j =>
      unfold posB
      cases hj : bs[j]? with
      | none => simpa only [hj] using hl
      | some p =>
        obtain ⟨A, B, c, d, h1, _⟩ := H.tws.get hj
        simpa only [hj] using h1.lt
  have HH := Lib.hid H
  have HHH := Lib.hid hh
  have HPP := Lib.hid hP
  have HSO := Lib.hid hso
  clear H hh hP hso
  have hm0 : Mod Non w ((w.alloc (.cells #[.pointer none, .pointer none, .pointer none, .pointer none, .pointer none, .pointer none, .pointer none, .pointer none, .pointer none, .pointer none, .pointer none, .pointer none] 206)).alloc (.cells #[.pointer none, .pointer none, .pointer none, .pointer none, .pointer none, .pointer none, .pointer none, .pointer none, .pointer none, .pointer none, .pointer none, .pointer none] 206)) := ((Mod.refl Non w).alloc _).alloc _
  have hb0 := Blk.new (w.alloc (.cells #[.pointer none, .pointer none, .pointer none, .pointer none, .pointer none, .pointer none, .pointer none, .pointer none, .pointer none, .pointer none, .pointer none, .pointer none] 206)) 206 #[.pointer none, .pointer none, .pointer none, .pointer none, .pointer none, .pointer none, .pointer none, .pointer none, .pointer none, .pointer none, .pointer none, .pointer none]
  rw [World.size_alloc] at hb0
  have hr0 := (Blk.new w 206 #[.pointer none, .pointer none, .pointer none, .pointer none, .pointer none, .pointer none, .pointer none, .pointer none, .pointer none, .pointer none, .pointer none, .pointer none]).alloc (.cells #[.pointer none, .pointer none, .pointer none, .pointer none, .pointer none, .pointer none, .pointer none, .pointer none, .pointer none, .pointer none, .pointer none, .pointer none] 206)
  go_enter Tryz.func193, Tryz.ntmps193
  go_wp2_with fail
  generalize (w.alloc (.cells #[.pointer none, .pointer none, .pointer none, .pointer none, .pointer none, .pointer none, .pointer none, .pointer none, .pointer none, .pointer none, .pointer none, .pointer none] 206)).alloc (.cells #[.pointer none, .pointer none, .pointer none, .pointer none, .pointer none, .pointer none, .pointer none, .pointer none, .pointer none, .pointer none, .pointer none, .pointer none] 206) = w1 at *
  have HM1 := Lib.hid hm0
  have HB1 := Lib.hid hb0
  have HR1 := Lib.hid hr0
  clear hm0 hb0 hr0
  go_loopw [6, 7] (fun p h wr => ∃ (z : Int) (i : Nat), -1 ≤ z ∧ z ≤ 11 ∧ h = .int .i64 z ∧ p = .pointer (some ⟨posB l bs i, 0, none⟩) ∧ i ≤ k ∧ Hid (High bs i z.toNat) ∧ Hid (Mod Non w wr) ∧ Hid (Blk wr (w.heap.size + 1) 206 (pathTo l bs k (z + 1).toNat).toArray) ∧ Hid (Blk wr w.heap.size 206 #[.pointer none, .pointer none, .pointer none, .pointer none, .pointer none, .pointer none, .pointer none, .pointer none, .pointer none, .pointer none, .pointer none, .pointer none])) (fun _ h _ => (intOf h + 1).toNat)
  case atStart => exact ⟨11, 0, by omega, by omega, rfl, rfl, Nat.zero_le _, fun j hj => absurd hj (by omega), HM1.out, by show Blk _ _ _ _; rw [show ((11 : Int) + 1).toNat = 12 from rfl, pathTo_all]; exact HB1.out, HR1.out⟩
  case round =>
    obtain ⟨z, i, hz0, hz1, rfl, rfl, hik, HHI, HM, HB, HR⟩ := hrel
    rename World => wr
    by_cases hz : 0 ≤ z
    · obtain ⟨r, rfl⟩ : ∃ r : Nat, z = (r : Int) := ⟨z.toNat, by omega⟩
      have hr12 : r < 12 := by omega
      rw [show ((r : Int)).toNat = r by omega] at HHI
      rw [show ((r : Int) + 1).toNat = r + 1 by omega] at HB
      go_wp2_with fail
      go_loopw [6] (fun p wi => ∃ (i : Nat), p = .pointer (some ⟨posB l bs i, 0, none⟩) ∧ i ≤ k ∧ Hid (High bs i r) ∧ Hid (Mod Non w wi) ∧ Hid (Blk wi (w.heap.size + 1) 206 (pathTo l bs k (r + 1)).toArray) ∧ Hid (Blk wi w.heap.size 206 #[.pointer none, .pointer none, .pointer none, .pointer none, .pointer none, .pointer none, .pointer none, .pointer none, .pointer none, .pointer none, .pointer none, .pointer none])) (fun p _ => k - idxV l bs p)
      case atStart => exact ⟨i, rfl, hik, HHI, HM, HB, HR⟩
      case round =>
        clear HM HB HHI HR
        obtain ⟨i2, rfl, hik2, HHI, HM, HB, HR⟩ := hrel
        rename World => wi
        have hL := HH.out.mod HM.out (fun h => h) (fun _ _ h => h) (fun _ _ h => h)
        have hnx := hL.next HHI.out hr12
        have HL := Lib.hid hL
        clear hL
        cases ho : nxB (bs.drop i2) r with
        | none =>
          rw [ho] at hnx
          have hend : lastB l (bs.take k) r = posB l bs i2 := posB_end HHI.out hik2 fun p hp => nxB_none ho p (by rw [List.drop_take] at hp; exact List.mem_of_mem_take hp)
          have HEND := Lib.hid hend
          clear hend ho
          have hset := HB.out.set_ r (.pointer (some ⟨posB l bs i2, 0, none⟩))
          rw [← HEND.out, pathTo_set l bs k r hr12, HEND.out] at hset
          have HSET := Lib.hid hset
          have fr := HB.out.frozen r
          have cr : ∃ v, wi.cell? ⟨w.heap.size + 1, r, none⟩ = some v := by
            rw [HB.out.cell r]
            exact pathTo_get l bs k (r + 1) hr12
          obtain ⟨v, cr⟩ := cr
          have HM2 := Lib.hid (HM.out.setCell (p := ⟨w.heap.size + 1, r, none⟩) (.inr (by simp only; omega)) (.pointer (some ⟨posB l bs i2, 0, none⟩)))
          clear hset
          unfold ptrB at hnx
          simp only [Option.map_none] at hnx
          go_wp2_with fail
          go_roundw
          case rel =>
            refine ⟨(r : Int) - 1, i2, by omega, by omega, by go_num, rfl, hik2, HHI.out.down (by omega), HM2.out, ?_⟩
            rw [show ((r : Int) - 1 + 1).toNat = r by omega]
            exact ⟨HSET.out, HR.out.far (by simp only; omega) _⟩
          case measure => simp [intOf] <;> omega
        | some b =>
          rw [ho] at hnx
          obtain ⟨j, t, hj, hth, hlow⟩ := nxB_some ho
          obtain ⟨hpos, hhigh⟩ := posB_step (l := l) hj hth
          have hjb : bs[i2 + j]? = some (b, t) := by rw [← hj, List.getElem?_drop]
          obtain ⟨A, B, c, d, hblk, hok, -, -⟩ := HL.out.tws.get hjb
          have e0 : wi.cell? ⟨b, 0, none⟩ = some (.slice A t.e.key.length c) := hblk.cell 0
          have e1 : wi.cell? ⟨b, 1, none⟩ = some (.int .i64 t.e.seq) := hblk.cell 1
          have e2 : wi.cell? ⟨b, 2, none⟩ = some (.bool t.e.gone) := hblk.cell 2
          have e3 : wi.cell? ⟨b, 3, none⟩ = some (.slice B t.e.val.length d) := hblk.cell 3
          have hPt := HPP.out _ _ hjb
          have hcall := HSO.out wi t.e A B c d HM.out hok
          rw [hPt] at hcall
          unfold enVal at hcall
          have HC := Lib.hid hcall
          have HPOS := Lib.hid hpos
          have HHIGH := Lib.hid hhigh
          have hlt : i2 + j < bs.length := (List.getElem?_eq_some_iff.1 hjb).1
          unfold ptrB at hnx
          simp only [Option.map_some] at hnx
          have HLOW := Lib.hid hlow
          have HJ := Lib.hid hj
          clear hcall hPt hpos hhigh hj hjb hlow ho hth hok hblk
          obtain ⟨n1, hn1⟩ : ∃ n1, t.e.key.length = n1 := ⟨_, rfl⟩
          obtain ⟨n2, hn2⟩ : ∃ n2, t.e.val.length = n2 := ⟨_, rfl⟩
          rw [hn1] at e0 HC
          rw [hn2] at e3 HC
          clear hn1 hn2
          go_wp2_with fail
          by_cases hjk : i2 + j < k
          · rw [decide_eq_true hjk] at HC
            refine HC.out.mono ?_
            rintro e w2 ⟨rfl, hm2⟩
            have HM2 := Lib.hid hm2
            have hnx2 := hm2.cell hnx (fun h => h)
            clear hm2 hnx e0 e1 e2 e3
            go_wp2_with fail
            go_roundw
            case rel => exact ⟨i2 + j + 1, by rw [HPOS.out], by omega, HHIGH.out, HM.out.trans0 HM2.out, HB.out.mod HM2.out fun h => h, HR.out.mod HM2.out fun h => h⟩
            case measure =>
              have h1 := idxV_pos HH.out (i := i2) (by omega)
              have h2 := idxV_pos HH.out (i := i2 + j + 1) (by omega)
              rw [HPOS.out] at h2
              simp only [h1, h2]
              omega
          · rw [decide_eq_false hjk] at HC
            have hend : lastB l (bs.take k) r = posB l bs i2 := posB_end HHI.out hik2 fun p hp => HLOW.out p (by
              rw [List.drop_take] at hp
              have : k - i2 ≤ j := by omega
              have he : (bs.drop i2).take (k - i2) = ((bs.drop i2).take j).take (k - i2) := by rw [List.take_take, Nat.min_eq_left this]
              rw [he] at hp
              exact List.mem_of_mem_take hp)
            have HEND := Lib.hid hend
            clear hend
            have cr : ∃ v, wi.cell? ⟨w.heap.size + 1, r, none⟩ = some v := by
              rw [HB.out.cell r]
              exact pathTo_get l bs k (r + 1) hr12
            obtain ⟨v, cr⟩ := cr
            refine HC.out.mono ?_
            rintro e w2 ⟨rfl, hm2⟩
            have HM2 := Lib.hid hm2
            have fr := (HB.out.mod hm2 fun h => h).frozen r
            have cr2 := hm2.cell cr (fun h => h)
            clear hm2 cr hnx e0 e1 e2 e3
            go_wp2_with fail
            have hset := (HB.out.mod HM2.out fun h => h).set_ r (.pointer (some ⟨posB l bs i2, 0, none⟩))
            rw [← HEND.out, pathTo_set l bs k r hr12, HEND.out] at hset
            have HSET := Lib.hid hset
            have HM3 := Lib.hid ((HM.out.trans0 HM2.out).setCell (p := ⟨w.heap.size + 1, r, none⟩) (.inr (by simp only; omega)) (.pointer (some ⟨posB l bs i2, 0, none⟩)))
            clear hset
            go_roundw
            case rel =>
              refine ⟨(r : Int) - 1, i2, by omega, by omega, by go_num, rfl, hik2, HHI.out.down (by omega), HM3.out, ?_⟩
              rw [show ((r : Int) - 1 + 1).toNat = r by omega]
              exact ⟨HSET.out, (HR.out.mod HM2.out fun h => h).far (by simp only; omega) _⟩
            case measure => simp [intOf] <;> omega
    · obtain rfl : z = -1 := by omega
      rw [show ((-1 : Int) + 1).toNat = 0 from rfl, pathTo_zero] at HB
      have hsz : (Tryz.prog.info? 206).map (·.size) = some (pathV l bs k).toArray.size := by rw [pathV_size]; kernel_rfl
      have hone := pathV_one l bs k
      have hol : Hid ((12 : Nat) = (pathV l bs k).toArray.size) := (pathV_size l bs k).symm
      obtain ⟨cs, hcs⟩ : ∃ cs, (pathV l bs k).toArray = cs := ⟨_, rfl⟩
      rw [hcs] at HB hsz hone hol
      have HCS := Lib.hid hcs
      clear hcs
      go_wp2_with (first
        | (refine wpList_load_row rfl 206 (.tmp 5) rfl (w.heap.size + 1) rfl _ _ (0, 0) _ HB.out Tryz.underlying206 rfl hsz ?_)
        | (refine wpList_store_row rfl 206 (.tmp 4) (.tmp 44) rfl w.heap.size cs rfl rfl _ _ HR.out hsz hol.out hone ?_)
        | fail)
      refine bodyPost_ret (results_cell_row rfl _ _ w.heap.size 206 _ (0, 0) _ rfl (HR.out.row cs) Tryz.underlying206 rfl hsz) rfl ?_
      exact ⟨by rw [HCS.out], HM.out.setRow (.inr (Nat.le_refl _)) _⟩

end Go.Proofs.YtgnpmmhpeianpaaGreatDoor

/- The reference's engine, opened on a new disk. -/
namespace Go.Proofs.YtgnpmmhpeianpaaGreatDoor
open Go.RowKit

set_option maxRecDepth 100000 in
set_option maxHeartbeats 2000000 in
theorem openZ (r : Nat) (n : Int) (w : World) (h : RzAt w r n) : Calls Tryz.prog 44 #[.pointer (some ⟨r, 0, none⟩)] w fun e w' => ∃ g, w.heap.size ≤ g ∧ e = .returned (.tuple #[.pointer (some ⟨g, 0, none⟩), .int .i64 0]) ∧
    Blk w' g 158 #[.pointer (some ⟨r, 0, none⟩), .int .i64 0, .int .i64 0, .int .i64 0, .int .i64 0, .slice none 0 0, .slice none 0 0, .slice none 0 0, .int .i64 0, .int .i64 0, .slice none 0 0] ∧ Mod Non w w' := by
  have HL := Lib.hid (loadZ r n w h)
  have HC := Lib.hid fun W (hw : Mod Non w W) => cleanZ r n W (Blk.mod h hw fun h => h)
  have HS := Lib.hid fun W (hw : Mod Non w W) => segsZ r n W (Blk.mod h hw fun h => h)
  clear h
  unfold zeroVv at HL HC
  go_enter Tryz.func44, Tryz.ntmps44
  go_wp2_with fail
  refine HL.out.mono ?_
  rintro e w1 ⟨rfl, hm1⟩
  obtain ⟨w2, hw2⟩ : ∃ w2, w2 = w1.alloc (.cells #[.int .i64 0, .int .i64 0, .int .i64 0, .int .i64 0, .slice none 0 0] 151) := ⟨_, rfl⟩
  have hm2 : Mod Non w w2 := by rw [hw2]; exact hm1.alloc _
  have hb2 : Blk w2 w1.heap.size 151 #[.int .i64 0, .int .i64 0, .int .i64 0, .int .i64 0, .slice none 0 0] := by rw [hw2]; exact Blk.new _ _ _
  have HM2 := Lib.hid hm2
  have HB2 := Lib.hid hb2
  have hs1 := hm1.size
  clear hm1
  go_wp2_with fail
  rw [← hw2]
  have HW2 := Lib.hid hw2
  clear hw2 hm2 hb2
  refine (HC.out w2 HM2.out).mono ?_
  rintro e w3 ⟨rfl, hm3⟩
  have hb3 := HB2.out.mod hm3 fun h => h
  have v0 : w3.cell? ⟨w1.heap.size, 0, none⟩ = some (.int .i64 0) := hb3.cell 0
  have v1 : w3.cell? ⟨w1.heap.size, 1, none⟩ = some (.int .i64 0) := hb3.cell 1
  have v2 : w3.cell? ⟨w1.heap.size, 2, none⟩ = some (.int .i64 0) := hb3.cell 2
  have v3 : w3.cell? ⟨w1.heap.size, 3, none⟩ = some (.int .i64 0) := hb3.cell 3
  have v4 : w3.cell? ⟨w1.heap.size, 4, none⟩ = some (.slice none 0 0) := hb3.cell 4
  have HM3 := Lib.hid (HM2.out.trans0 hm3)
  have hs3 := HM3.out.size
  have HB3 := Lib.hid hb3
  clear hm3 hb3
  go_wp2_with fail
  obtain ⟨w4, hw4⟩ : ∃ w4, w4 = w3.alloc (.cells #[.pointer (some ⟨r, 0, none⟩), .int .i64 0, .int .i64 0, .int .i64 0, .int .i64 0, .slice none 0 0, .slice none 0 0, .slice none 0 0, .int .i64 0, .int .i64 0, .slice none 0 0] 158) := ⟨_, rfl⟩
  have hm4 : Mod Non w3 w4 := by rw [hw4]; exact (Mod.refl Non w3).alloc _
  have hb4 : Blk w4 w3.heap.size 158 #[.pointer (some ⟨r, 0, none⟩), .int .i64 0, .int .i64 0, .int .i64 0, .int .i64 0, .slice none 0 0, .slice none 0 0, .slice none 0 0, .int .i64 0, .int .i64 0, .slice none 0 0] := by rw [hw4]; exact Blk.new _ _ _
  have HM4 := Lib.hid (HM3.out.trans0 hm4)
  have HB4 := Lib.hid hb4
  have v4' : w4.cell? ⟨w1.heap.size, 4, none⟩ = some (.slice none 0 0) := hm4.cell v4 fun h => h
  rw [← hw4]
  clear hw4 hm4 hb4 v0 v1 v2 v3 v4
  refine wp_loop_rounds 1 ?_
  rw [rounds_succ]; go_wp2_with fail
  refine (HS.out w4 HM4.out).mono ?_
  rintro e w5 ⟨rfl, rfl⟩
  go_wp2_with fail
  refine wp_loop_rounds 1 ?_
  rw [rounds_succ]; go_wp2_with fail
  go_ret2
  exact ⟨w3.heap.size, hs3, rfl, HB4.out, HM4.out⟩

theorem infoI2 : ∃ i, Tryz.prog.info? 3 = some i ∧ i.zero = some (.int .i64 0) ∧ i.size = 1 ∧ i.bytes = 8 := by
  set_option maxRecDepth 100000 in
  first | exact ⟨_, by kernel_rfl, rfl, rfl, rfl⟩ | exact ⟨_, rfl, rfl, rfl, rfl⟩
theorem step_appI (w : World) {ops : Array Oper} {o : Oper} {a : Act} {K : Act → World → Prop} {Q : Exit → Act → World → Prop} {Z : Prop} (hgd : o.guard = none) (s x : Operand)
    (ho : o.op = .call { callee := .builtin .append, args := #[s, x], argTypes := #[71, 71] })
    (base : Nat) (v : Value) (n : Nat) (xs : List Value) (hs : a.eval s = v) (hown : w.ownsRow base 3 1 v n xs)
    (A : Option Addr) (m c : Nat) (news : List Value) (hx : a.eval x = .slice A m c) (hr : Rd w A m news) (h1 : ∀ u ∈ news, u.oneCell' = true)
    (h63 : n + m ≤ 1000000000000) (hbase : base ≤ w.heap.size)
    (h : ∀ A' c' w', w'.ownsRow base 3 1 (.slice A' (n + m) c') (n + m) (xs ++ news) → w.grownBy w' v.ownBlock → K (a.put o.dst (.slice A' (n + m) c')) w') : if Region.wanted o (yielded ops a.tmps) = true then Oper.wp Tryz.prog o a w K Q else Z := by
  obtain ⟨i, hi, hz, hs1, hb⟩ := infoI2
  have hw : Region.wanted o (yielded ops a.tmps) = true := by simp [Region.wanted, hgd]
  rw [if_pos hw]
  refine wp_app w s x 71 ho base 3 i (.int .i64 0) 8 Tryz.underlying71 hi hz hs1 hb rfl v n xs hs hown A m c news hx hr h1 (by simp only [maxLen]; omega) (by omega) hbase ?_
  intro v' w' hown' hg _
  obtain ⟨A', c', rfl, _, _⟩ := own_slice hown'
  exact h A' c' w' hown' hg

set_option maxRecDepth 100000 in
set_option maxHeartbeats 8000000 in
/-- Pin, where nothing is pinned. -/
theorem pinZ (g : Nat) (w : World) (h8 : w.cell? ⟨g, 8, none⟩ = some (.int .i64 0)) (h10 : w.cell? ⟨g, 10, none⟩ = some (.slice none 0 0)) (hf : w.frozen? ⟨g, 10, none⟩ = false) :
    Calls Tryz.prog 152 #[.pointer (some ⟨g, 0, none⟩)] w fun e w' => e = .returned (.tuple #[.int .i64 0, .int .i64 0]) ∧ Mod (fun i => i = g) w w' := by
  go_enter Tryz.func152, Tryz.ntmps152
  go_wp2_with fail
  refine wp_loop_rounds 1 ?_
  rw [rounds_succ]; go_wp2_with fail
  have hgl : g < w.heap.size := World.block_lt_of_cell? w _ h8
  have a8 : ∀ o, (w.alloc o).cell? ⟨g, 8, none⟩ = some (.int .i64 0) := fun o => ((Mod.refl Non w).alloc o).cell h8 fun h => h
  have a10 : ∀ o, (w.alloc o).cell? ⟨g, 10, none⟩ = some (.slice none 0 0) := fun o => ((Mod.refl Non w).alloc o).cell h10 fun h => h
  have b8' : ∀ o o', ((w.alloc o).alloc o').cell? ⟨g, 8, none⟩ = some (.int .i64 0) := fun o o' => (((Mod.refl Non w).alloc o).alloc o').cell h8 fun h => h
  have b10' : ∀ o o', ((w.alloc o).alloc o').cell? ⟨g, 10, none⟩ = some (.slice none 0 0) := fun o o' => (((Mod.refl Non w).alloc o).alloc o').cell h10 fun h => h
  have e10' : ∀ o o' o'', (((w.alloc o).alloc o').alloc o'').cell? ⟨g, 10, none⟩ = some (.slice none 0 0) := fun o o' o'' => ((((Mod.refl Non w).alloc o).alloc o').alloc o'').cell h10 fun h => h
  have ef' : ∀ o o' o'', (((w.alloc o).alloc o').alloc o'').frozen? ⟨g, 10, none⟩ = false := fun o o' o'' => (((((Mod.refl Non w).alloc o).alloc o').alloc o'').frozen (p := ⟨g, 10, none⟩) hgl fun h => h).trans hf
  have hcap : (281474976710656 < Builtin.nextslicecap 1 0 * Tryz.t3.bytes) = False := eq_false (by first | decide +kernel | (rw [show Builtin.nextslicecap 1 0 * Tryz.t3.bytes = 8 by kernel_rfl]; omega))
  go_region_law (first | fail)
  all_goals
    have z8 := fun (v : Value) (o o' o'' : Obj) => (((((Mod.refl (fun i => i = g) w).alloc o).alloc o').alloc o'').set1 10 v)
    have y8 : ∀ (v : Value) (o o' o'' : Obj), ((((w.alloc o).alloc o').alloc o'').setCell ⟨g, 10, none⟩ v).cell? ⟨g, 8, none⟩ = some (.int .i64 0) := fun v o o' o'' => (World.cell?_setCell_other _ ⟨g, 10, none⟩ ⟨g, 8, none⟩ _ (by simp)).trans (((((Mod.refl Non w).alloc o).alloc o').alloc o'').cell h8 fun h => h)
    have HZ := Lib.hid z8
    clear z8
    go_wp2_with fail
    go_ret2
    exact ⟨rfl, (HZ.out _ _ _ _).drew.drew⟩

set_option maxRecDepth 100000 in
set_option maxHeartbeats 400000 in
theorem beginZ (g : Nat) (w : World) (h8 : w.cell? ⟨g, 8, none⟩ = some (.int .i64 0)) (h10 : w.cell? ⟨g, 10, none⟩ = some (.slice none 0 0)) (hf : w.frozen? ⟨g, 10, none⟩ = false) :
    Calls Tryz.prog 84 #[.pointer (some ⟨g, 0, none⟩)] w fun e w' => ∃ b, e = .returned (.tuple #[.pointer (some ⟨b, 0, none⟩), .int .i64 0]) ∧ Mod (fun i => i = g) w w' := by
  have HP := Lib.hid (pinZ g w h8 h10 hf)
  clear h8 h10 hf
  go_enter Tryz.func84, Tryz.ntmps84
  go_wp2_with fail
  refine HP.out.mono ?_
  rintro e w1 ⟨rfl, hm1⟩
  have HM1 := Lib.hid hm1
  clear hm1
  go_wp2_with fail
  go_ret2
  exact ⟨_, rfl, HM1.out.alloc _⟩

end Go.Proofs.YtgnpmmhpeianpaaGreatDoor
