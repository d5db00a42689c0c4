/- (*sha.state).take. -/
import Derived.Test.YtgnpmmhpeianpaaGreatDoorB19
import Derived.Laws.CopyOwn
import Derived.Deep.QuietTactic
import Derived.Deep.RegionLaw
import Derived.Deep.RegionWith
import Derived.BigQuiet
namespace Go.Proofs.YtgnpmmhpeianpaaGreatDoor
open Go.RowKit

theorem quiet_add {P : Program} {f : FuncId} {args : Array Value} {w : World} {q n : Nat} {v : Value}
    (h : Calls P f args (w.drewN (q + n)) fun e w' => e = .returned v ∧ w' = w.drewN (q + n)) : Calls P f args (w.drewN (q + n)) fun e w'' => e = .returned v ∧ ∃ m, w'' = w.drewN (q + m) :=
  h.mono fun _ _ ⟨he, hm⟩ => ⟨he, n, hm⟩
theorem b32_add' (a b : B32) : ((a.toNat : Int) + (b.toNat : Int)) % 4294967296 = ((a + b).toNat : Int) := by
  have := b32_add a b
  rwa [IntKind.wrap_u32] at this
theorem Blk.rowFar {w : World} {g k : Nat} {t : TypeId} {cs : Array Value} (h : Blk w g t cs) (hk : g ≠ k) (ds : Array Value) : Blk (w.setRow k ds) g t cs := (setRow_other w k g ds hk).trans h
theorem b32_notm (a : B32) : bits .xor .u32 IntKind.u32.max (a.toNat : Int) = ((~~~a).toNat : Int) := b32_not' a
theorem stX_walk (s : St) (k w : B32) : ((s.h.toNat : Int) + ((sg s.e 6 11 25).toNat : Int) + bits BinOp.xor IntKind.u32 (bits BinOp.and IntKind.u32 (s.e.toNat : Int) (s.f.toNat : Int)) (bits BinOp.and IntKind.u32 (bits BinOp.xor IntKind.u32 IntKind.u32.max (s.e.toNat : Int)) (s.g.toNat : Int)) + (k.toNat : Int) + (w.toNat : Int)) % 4294967296 = ((stX s k w).toNat : Int) := by
  rw [b32_and, b32_notm, b32_and, b32_xor]
  unfold stX
  rw [show (s.e &&& s.f ^^^ ~~~s.e &&& s.g) = ch s.e s.f s.g from rfl]
  simp only [BitVec.toNat_add]
  omega
theorem stY_walk (s : St) : (((sg s.a 2 13 22).toNat : Int) + bits BinOp.xor IntKind.u32 (bits BinOp.xor IntKind.u32 (bits BinOp.and IntKind.u32 (s.a.toNat : Int) (s.b.toNat : Int)) (bits BinOp.and IntKind.u32 (s.a.toNat : Int) (s.c.toNat : Int))) (bits BinOp.and IntKind.u32 (s.b.toNat : Int) (s.c.toNat : Int))) % 4294967296 = ((stY s).toNat : Int) := by
  rw [b32_and, b32_and, b32_and, b32_xor, b32_xor]
  unfold stY
  rw [show ((s.a &&& s.b) ^^^ (s.a &&& s.c) ^^^ (s.b &&& s.c)) = mj s.a s.b s.c from rfl]
  simp only [BitVec.toNat_add]
  omega
/-- the sum, word by word. -/
def addTo (s r : St) (j : Nat) : List B32 := (s.plus r).list.take j ++ s.list.drop j
theorem addTo_zero (s r : St) : addTo s r 0 = s.list := rfl
theorem addTo_all (s r : St) : addTo s r 8 = (s.plus r).list := rfl
theorem addTo_step (s r : St) (j : Nat) (hj : j < 8) : (addTo s r j).set j (s.list.getD j 0 + r.list.getD j 0) = addTo s r (j + 1) := by
  match j, hj with
  | 0, _ => rfl
  | 1, _ => rfl
  | 2, _ => rfl
  | 3, _ => rfl
  | 4, _ => rfl
  | 5, _ => rfl
  | 6, _ => rfl
  | 7, _ => rfl
theorem addTo_get (s r : St) (j : Nat) (hj : j < 8) : (addTo s r j).getD j 0 = s.list.getD j 0 := by
  match j, hj with
  | 0, _ => rfl
  | 1, _ => rfl
  | 2, _ => rfl
  | 3, _ => rfl
  | 4, _ => rfl
  | 5, _ => rfl
  | 6, _ => rfl
  | 7, _ => rfl
theorem addTo_len (s r : St) (j : Nat) (hj : j ≤ 8) : (addTo s r j).length = 8 := by
  have h1 : (s.plus r).list.length = 8 := rfl
  have h2 : s.list.length = 8 := rfl
  simp [addTo, h1, h2]
  omega
theorem hi8 : (Tryz.prog.info? 185).map (·.size) = some 8 := by kernel_rfl
theorem runSt_len (ws : List B32) (s : St) (t : Nat) : (runSt ws s t).list.length = 8 := rfl
theorem turnedL (x : B32) (a b c : Nat) (za zb zc : Int) (ha : za = (a : Int)) (hb : zb = (b : Int)) (hc : zc = (c : Int)) (h1 : 1 ≤ a ∧ a ≤ 31) (h2 : 1 ≤ b ∧ b ≤ 31) (h3 : 1 ≤ c ∧ c ≤ 31) (w : World) :
    Calls Tryz.prog 163 #[.int .u32 (x.toNat : Int), .int .i64 za, .int .i64 zb, .int .i64 zc] w fun e w' => e = .returned (.int .u32 ((sg x a b c).toNat : Int)) ∧ w' = w := by
  rw [ha, hb, hc]
  exact (turnedS_any x a b c w h1 h2 h3).mono fun _ _ h => ⟨h.1, h.2.symm⟩

set_option maxRecDepth 100000 in
set_option maxHeartbeats 4000000 in
theorem take_any (g : Nat) (T : TypeId) (s : St) (A : Option Addr) (n c : Nat) (l : List UInt8) (w : World) (hb : Blk w g T (v32s s.list)) (h : Rd w A n (by8 l)) (hn : 64 ≤ n) (hn2 : n ≤ 140737488355328) :
    Calls Tryz.prog 95 #[.pointer (some ⟨g, 0, none⟩), .slice A n c] w fun e w' => e = .returned (.tuple #[]) ∧ Blk w' g T (v32s (blockSt s l).list) ∧ Mod (fun k => k = g) w w' := by
  have HTB := Lib.hid (table_any w)
  have HH := Lib.hid h
  have HG := Lib.hid hb
  have HI64 := Lib.hid hi64
  have hi8' := hi8
  rw [show (8 : Nat) = (v32s s.list).size from rfl] at hi8'
  have HI8 := Lib.hid hi8'
  have h1k := v32s_one kTab
  have h1w := v32s_one (wordsOf l)
  have hsk : (v32s kTab).size = 64 := by rw [v32s_size]; rfl
  have hsw : (v32s (wordsOf l)).size = 64 := by rw [v32s_size, wordsOf_len]
  obtain ⟨KV, hKV⟩ : ∃ V, v32s kTab = V := ⟨_, rfl⟩
  obtain ⟨WV, hWV⟩ : ∃ V, v32s (wordsOf l) = V := ⟨_, rfl⟩
  obtain ⟨SV, hSV⟩ : ∃ V, v32s s.list = V := ⟨_, rfl⟩
  rw [hKV] at HTB h1k hsk
  rw [hWV] at h1w hsw
  have h1s := v32s_one s.list
  rw [hSV] at HG HI8 h1s
  have HKV := Lib.hid hKV
  have HWV := Lib.hid hWV
  have HSV := Lib.hid hSV
  have hik := hi64
  rw [← hsk] at hik
  have hiw := hi64
  rw [← hsw] at hiw
  have HIK := Lib.hid hik
  have HIW := Lib.hid hiw
  have HK1 := Lib.hid h1k
  have HW1 := Lib.hid h1w
  have HS1 := Lib.hid h1s
  have HKS : Hid (zLit.size = KV.size) := by show _ = _; rw [hsk]; rfl
  have HS8 : Hid ((#[.int .u32 0, .int .u32 0, .int .u32 0, .int .u32 0, .int .u32 0, .int .u32 0, .int .u32 0, .int .u32 0] : Array Value).size = SV.size) := by show _ = _; rw [← HSV.out]; rfl
  have HWS : Hid (zLit.size = WV.size) := by show _ = _; rw [hsw]; rfl
  clear h hb hKV hWV hSV hik hiw h1k h1w h1s hsk hsw hi8'
  go_enter Tryz.func95, Tryz.ntmps95
  go_wp2_with (first
    | (go_at_call 161; refine HTB.out.mono ?_; rintro e w1 ⟨rfl, hm1⟩; have HM1 := Lib.hid hm1; clear hm1)
    | (go_at_call 162
       have hex := expand_any A n c l w1 (HH.out.mod0 HM1.out) hn hn2
       rw [HWV.out] at hex
       refine hex.mono ?_
       clear hex
       rintro e w2 ⟨rfl, hm2⟩
       have HM2 := Lib.hid (HM1.out.trans0 hm2)
       have HGA : Hid (Blk ((w2.alloc (.cells zLit 265)).alloc (.cells zLit 265)) w2.heap.size 265 zLit) := (Blk.new _ _ _).alloc _
       have HGB : Hid (Blk ((w2.alloc (.cells zLit 265)).alloc (.cells zLit 265)) (w2.heap.size + 1) 265 zLit) := by
         have := Blk.new (w2.alloc (.cells zLit 265)) 265 zLit
         rw [World.size_alloc] at this
         exact this
       clear hm2)
    | (refine wpList_store_row rfl 265 (.tmp 4) (.tmp 13) rfl w2.heap.size KV rfl rfl _ _ HGA.out HIK.out HKS.out HK1.out ?_)
    | (refine wpList_store_row rfl 265 (.tmp 5) (.tmp 15) rfl (w2.heap.size + 1) WV rfl rfl _ _ (HGB.out.rowFar (by omega) KV) HIW.out HWS.out HW1.out ?_
       generalize hw3 : World.setRow (World.setRow _ _ _) _ _ = w3
       have HK3 : Hid (Blk w3 w2.heap.size 265 KV) := by rw [← hw3]; exact (HGA.out.row KV).rowFar (by omega) WV
       have HW3 : Hid (Blk w3 (w2.heap.size + 1) 265 WV) := by rw [← hw3]; exact (HGB.out.rowFar (by omega) KV).row WV
       have HM3 : Hid (Mod Non w w3) := by rw [← hw3]; exact ((((HM2.out.alloc (.cells zLit 265)).alloc (.cells zLit 265)).setRow (.inr (by have := HM2.out.size; omega)) KV).setRow (.inr (by have := HM2.out.size; omega)) WV)
       have HG3 : Hid (Blk w3 g T SV) := HG.out.mod HM3.out fun h => h
       have HZ3 : Hid (w3.heap.size = w2.heap.size + 2) := by
         show _ = _
         rw [← hw3, size_setRow, size_setRow, World.size_alloc, World.size_alloc]
       have HL3 : Hid (Blk (w3.alloc (.cells #[.int .u32 0, .int .u32 0, .int .u32 0, .int .u32 0, .int .u32 0, .int .u32 0, .int .u32 0, .int .u32 0] 185)) w3.heap.size 185 #[.int .u32 0, .int .u32 0, .int .u32 0, .int .u32 0, .int .u32 0, .int .u32 0, .int .u32 0, .int .u32 0]) := Blk.new _ _ _
       clear hw3)
    | (refine wpList_load_row rfl 185 (.tmp 17) rfl g rfl _ _ (0, 0) _ HG3.out Tryz.underlying185 rfl HI8.out ?_)
    | (refine wpList_store_row rfl 185 (.tmp 6) (.tmp 18) rfl w3.heap.size SV rfl rfl _ _ HL3.out HI8.out HS8.out HS1.out ?_
       generalize hw4 : World.setRow (World.alloc w3 _) _ _ = w4
       have HL4 : Hid (Blk w4 w3.heap.size 185 SV) := by rw [← hw4]; exact HL3.out.row SV
       have hm34 : Mod Non w3 w4 := by rw [← hw4]; exact ((Mod.refl Non w3).alloc _).setRow (.inr (Nat.le_refl _)) SV
       have HM34 := Lib.hid hm34
       have HZ4 : Hid (w4.heap.size = w3.heap.size + 1) := by show _ = _; rw [← hw4, size_setRow, World.size_alloc]
       clear hw4 hm34)
    | fail)
  have hgw : g < w.heap.size := HG.out.lt
  have hz2 := HM2.out.size
  have hz3 := HZ3.out
  have hz34 : w3.heap.size < w4.heap.size := HL4.out.lt
  have HK4 := Lib.hid (HK3.out.mod HM34.out fun h => h)
  have HW4 := Lib.hid (HW3.out.mod HM34.out fun h => h)
  have HG4 := Lib.hid (HG3.out.mod HM34.out fun h => h)
  have HM4 := Lib.hid (HM3.out.trans0 HM34.out)
  have hn1 : w2.heap.size ≠ w3.heap.size := by omega
  have hn2' : w2.heap.size + 1 ≠ w3.heap.size := by omega
  have hn3 : g ≠ w3.heap.size := by omega
  have N1 := Lib.hid hn1
  have N2 := Lib.hid hn2'
  have N3 := Lib.hid hn3
  have ZZ : Hid (w.heap.size ≤ w3.heap.size) := by show w.heap.size ≤ w3.heap.size; omega
  clear hz2 hz3 hn1 hn2' hn3 HZ3 HGA HGB HL3
  rw [← HSV.out] at HL4
  go_loopw [19] (fun i wr => ∃ (t : Nat), t ≤ 64 ∧ i = .int .i64 t ∧ Hid (Blk wr w3.heap.size 185 (v32s (runSt (wordsOf l) s t).list)) ∧ Hid (Mod (fun j => j = w3.heap.size) w4 wr)) (fun i _ => 64 - (intOf i).toNat)
  case atStart => exact ⟨0, Nat.zero_le _, rfl, HL4.out, Mod.refl _ _⟩
  case round =>
    obtain ⟨t, ht, rfl, HLr, HMr⟩ := hrel
    rename World => wr
    by_cases hlt : t < 64
    · have hst : runSt (wordsOf l) s (t + 1) = stStep (runSt (wordsOf l) s t) (kTab.getD t 0) ((wordsOf l).getD t 0) := rfl
      generalize runSt (wordsOf l) s t = st at *
      obtain ⟨sa, sb, sc, sd, se, sf, sgg, sh⟩ := st
      have hkb := (HK4.out.mod HMr.out N1.out).cell t
      have hwb := (HW4.out.mod HMr.out N2.out).cell t
      rw [← HKV.out, v32s_get _ _ (by rw [kTab_len]; exact hlt)] at hkb
      rw [← HWV.out, v32s_get _ _ (by rw [wordsOf_len]; exact hlt)] at hwb
      unfold v32 at hkb hwb
      obtain ⟨kt, hkt⟩ : ∃ kt, kTab.getD t 0 = kt := ⟨_, rfl⟩
      obtain ⟨wt, hwt⟩ : ∃ wt, (wordsOf l).getD t 0 = wt := ⟨_, rfl⟩
      rw [hkt] at hkb hst
      rw [hwt] at hwb hst
      have HST := Lib.hid hst
      have l0 : wr.cell? ⟨w3.heap.size, 0, none⟩ = some (.int .u32 (sa.toNat : Int)) := HLr.out.cell 0
      have l1 : wr.cell? ⟨w3.heap.size, 1, none⟩ = some (.int .u32 (sb.toNat : Int)) := HLr.out.cell 1
      have l2 : wr.cell? ⟨w3.heap.size, 2, none⟩ = some (.int .u32 (sc.toNat : Int)) := HLr.out.cell 2
      have l3 : wr.cell? ⟨w3.heap.size, 3, none⟩ = some (.int .u32 (sd.toNat : Int)) := HLr.out.cell 3
      have l4 : wr.cell? ⟨w3.heap.size, 4, none⟩ = some (.int .u32 (se.toNat : Int)) := HLr.out.cell 4
      have l5 : wr.cell? ⟨w3.heap.size, 5, none⟩ = some (.int .u32 (sf.toNat : Int)) := HLr.out.cell 5
      have l6 : wr.cell? ⟨w3.heap.size, 6, none⟩ = some (.int .u32 (sgg.toNat : Int)) := HLr.out.cell 6
      have l7 : wr.cell? ⟨w3.heap.size, 7, none⟩ = some (.int .u32 (sh.toNat : Int)) := HLr.out.cell 7
      have fl : ∀ j, wr.frozen? ⟨w3.heap.size, j, none⟩ = false := fun j => HLr.out.frozen j
      have H6 : Hid (∀ W, Calls Tryz.prog 163 #[.int .u32 (se.toNat : Int), .int .i64 6, .int .i64 11, .int .i64 25] W fun e w' => e = .returned (.int .u32 ((sg se 6 11 25).toNat : Int)) ∧ w' = W) := turnedL se 6 11 25 6 11 25 rfl rfl rfl (by omega) (by omega) (by omega)
      have H2 : Hid (∀ W, Calls Tryz.prog 163 #[.int .u32 (sa.toNat : Int), .int .i64 2, .int .i64 13, .int .i64 22] W fun e w' => e = .returned (.int .u32 ((sg sa 2 13 22).toNat : Int)) ∧ w' = W) := turnedL sa 2 13 22 2 13 22 rfl rfl rfl (by omega) (by omega) (by omega)
      have i1 : (0 : Int) ≤ (t : Int) := by omega
      have i2 : (t : Int) < 64 := by omega
      have i3 : t < 64 := hlt
      clear hst hkt hwt
      go_wp2_with fail
      go_quiet (fail)
      go_wp2_with fail
      go_quiet (first | (go_at_call 163; refine quiet_add (H6.out _)))
      go_wp2_with fail
      go_quiet (first | (go_at_call 163; refine quiet_add (H2.out _)))
      have hX := stX_walk ⟨sa, sb, sc, sd, se, sf, sgg, sh⟩ kt wt
      have hY := stY_walk ⟨sa, sb, sc, sd, se, sf, sgg, sh⟩
      simp only at hX hY
      go_wp2_with fail
      rw [hX, hY]
      obtain ⟨X, hX1⟩ : ∃ X, stX ⟨sa, sb, sc, sd, se, sf, sgg, sh⟩ kt wt = X := ⟨_, rfl⟩
      obtain ⟨Y, hY1⟩ : ∃ Y, stY ⟨sa, sb, sc, sd, se, sf, sgg, sh⟩ = Y := ⟨_, rfl⟩
      rw [hX1, hY1]
      have HST2 : Hid (runSt (wordsOf l) s (t + 1) = ⟨X + Y, sa, sb, sc, sd + X, se, sf, sgg⟩) := by
        show _ = _
        rw [HST.out, ← hX1, ← hY1]
        rfl
      generalize hw5 : World.drewN wr _ = w5
      have HL5 : Hid (Blk w5 w3.heap.size 185 (v32s [sa, sb, sc, sd, se, sf, sgg, sh])) := by rw [← hw5]; exact HLr.out.drewN _
      have HM5 : Hid (Mod (fun j => j = w3.heap.size) w4 w5) := by rw [← hw5]; exact HMr.out.drewN _
      clear hw5 hX hY hX1 hY1 l0 l1 l2 l3 l4 l5 l6 l7 fl hkb hwb HLr HMr HST H6 H2
      have hsz1 : (Tryz.prog.info? 183).map (·.size) = some 1 := by kernel_rfl
      have HC5 : Hid (w5.drew.heap[w3.heap.size]? = some (.cells ([v32 sa, v32 sb, v32 sc, v32 sd, v32 se, v32 sf, v32 sgg, v32 sh] : List Value).toArray 185 (0, 0))) := HL5.out.drew
      have HPOS : Hid (0 < ([v32 sa, v32 sb, v32 sc, v32 sd, v32 se, v32 sf, v32 sgg] : List Value).length → some (⟨w3.heap.size, 1, none⟩ : Addr) = some ⟨w3.heap.size, 1, none⟩ ∧ ∃ ad, some (⟨w3.heap.size, 0, none⟩ : Addr) = some ad ∧ ∀ (j : Nat) v, ([v32 sa, v32 sb, v32 sc, v32 sd, v32 se, v32 sf, v32 sgg] : List Value)[j]? = some v → w5.drew.cell? (ad.add j) = some v) := fun _ => by
        refine ⟨rfl, _, rfl, fun j v hv => ?_⟩
        have hadd : (⟨w3.heap.size, 0, none⟩ : Addr).add j = ⟨w3.heap.size, j, none⟩ := by unfold Addr.add; split <;> simp_all
        rw [hadd]
        have hl := HL5.out.drew.cell j
        rw [hl]
        match j, hv with
        | 0, hv => exact hv
        | 1, hv => exact hv
        | 2, hv => exact hv
        | 3, hv => exact hv
        | 4, hv => exact hv
        | 5, hv => exact hv
        | 6, hv => exact hv
      have HONE : Hid (∀ v ∈ ([v32 sa, v32 sb, v32 sc, v32 sd, v32 se, v32 sf, v32 sgg] : List Value), v.oneCell' = true) := fun v hv => by
        simp only [List.mem_cons, List.not_mem_nil, or_false] at hv
        rcases hv with rfl | rfl | rfl | rfl | rfl | rfl | rfl <;> rfl
      go_region_law (refine step_copy_splice rfl (.tmp 68) (.tmp 69) 188 188 rfl 183 Tryz.underlying188 hsz1 (some ⟨w3.heap.size, 1, none⟩) (some ⟨w3.heap.size, 0, none⟩) 7 7 7 8 rfl rfl w3.heap.size 1 [v32 sa, v32 sb, v32 sc, v32 sd, v32 se, v32 sf, v32 sgg, v32 sh] 185 HC5.out [v32 sa, v32 sb, v32 sc, v32 sd, v32 se, v32 sf, v32 sgg] rfl HPOS.out (Nat.le_refl 8) HONE.out w3.heap.size _ (Below.refl _ _) (Nat.le_refl _) ?_; intro w6 hg6 hb6)
      all_goals
        have HL6 : Hid (Blk w6 w3.heap.size 185 (v32s [sa, sa, sb, sc, sd, se, sf, sgg])) := hg6.out
        have HM6 : Hid (Mod (fun j => j = w3.heap.size) w4 w6) := by
          refine ⟨hb6.os.trans HM5.out.os, hb6.tape.trans HM5.out.tape, hb6.output.trans HM5.out.output, Nat.le_trans HM5.out.size hb6.size, fun i hi hn => ?_⟩
          have h1 := HZ4.out
          exact (hb6.block i (by omega)).trans (HM5.out.block i hi hn)
        have m4 : w6.cell? ⟨w3.heap.size, 4, none⟩ = some (.int .u32 (sd.toNat : Int)) := HL6.out.cell 4
        have m0 : w6.cell? ⟨w3.heap.size, 0, none⟩ = some (.int .u32 (sa.toNat : Int)) := HL6.out.cell 0
        have f4 := HL6.out.frozen 4
        have f0 := HL6.out.frozen 0
        clear hg6 hb6 HPOS HONE HC5
        go_wp2_with fail
        rw [b32_add' sd X, b32_add' X Y]
        go_roundw
        case rel =>
          refine ⟨t + 1, by omega, by go_num, ?_, ((HM6.out.set1 4 _).set1 0 _)⟩
          rw [HST2.out]
          exact (HL6.out.set_ 4 (v32 (sd + X))).set_ 0 (v32 (X + Y))
        case measure => simp [intOf]; omega
    · have ht64 : t = 64 := by omega
      have hd : decide ((t : Int) < 64) = false := decide_eq_false (by omega)
      rw [ht64] at HLr
      have HBS : Hid (s.plus (runSt (wordsOf l) s 64) = blockSt s l) := rfl
      generalize runSt (wordsOf l) s 64 = r at *
      have HGr : Hid (Blk wr g T (v32s (addTo s r 0))) := by
        have := HG4.out.mod HMr.out N3.out
        rw [← HSV.out] at this
        exact this
      have HMw : Hid (Mod (fun k => k = g) w wr) := (HM4.out.trans HMr.out fun k hk => .inr (by have := ZZ.out; omega)).mono fun _ h => h.elim
      clear ht64 HMr
      go_wp2_with fail
      go_loopw [81] (fun i wx => ∃ (j : Nat), j ≤ 8 ∧ i = .int .i64 j ∧ Hid (Blk wx g T (v32s (addTo s r j))) ∧ Hid (Blk wx w3.heap.size 185 (v32s r.list)) ∧ Hid (Mod (fun k => k = g) w wx)) (fun i _ => 8 - (intOf i).toNat)
      case atStart => exact ⟨0, Nat.zero_le _, rfl, HGr.out, HLr.out, HMw.out⟩
      case round =>
        clear HGr HLr HMw
        obtain ⟨j, hj, rfl, HGx, HLx, HMx⟩ := hrel
        rename World => wx
        by_cases hlt8 : j < 8
        · have cg := HGx.out.cell j
          rw [v32s_get _ _ (by rw [addTo_len _ _ _ hj]; exact hlt8), addTo_get _ _ _ hlt8] at cg
          have cl := HLx.out.cell j
          rw [v32s_get _ _ (by exact hlt8)] at cl
          have hstep := addTo_step s r j hlt8
          obtain ⟨xs, hxs⟩ : ∃ x, s.list.getD j 0 = x := ⟨_, rfl⟩
          obtain ⟨xr, hxr⟩ : ∃ x, r.list.getD j 0 = x := ⟨_, rfl⟩
          rw [hxs] at cg hstep
          rw [hxr] at cl hstep
          unfold v32 at cg cl
          have fg := HGx.out.frozen j
          have HSTEP := Lib.hid hstep
          have j1 : (0 : Int) ≤ (j : Int) := by omega
          have j2 : (j : Int) < 8 := by omega
          clear hstep hxs hxr
          go_wp2_with fail
          go_region_with (fail)
          all_goals
            go_wp2_with fail
            rw [b32_add']
            go_roundw
            case rel =>
              refine ⟨j + 1, by omega, by go_num, ?_, (HLx.out.far (by simp only; exact fun e => N3.out e.symm) _).drew, (HMx.out.set1 j _).drew⟩
              have h9 := (HGx.out.set_ j (v32 (xs + xr))).drew
              rw [v32s_set, HSTEP.out] at h9
              exact h9
            case measure => simp [intOf]; omega
        · have hj8 : j = 8 := by omega
          rw [hj8, addTo_all, HBS.out] at HGx
          have hd8 : decide ((j : Int) < 8) = false := decide_eq_false (by omega)
          clear hj8
          go_wp2_with fail
          go_end0
          exact ⟨rfl, HGx.out, HMx.out⟩

end Go.Proofs.YtgnpmmhpeianpaaGreatDoor

/- sawyerref01.turned, sawyerref01.table. -/
namespace Go.Proofs.YtgnpmmhpeianpaaGreatDoor
open Go.RowKit

theorem rr_walkQ (x : B32) (m n : Nat) (h : m + n = 32) : bits .or .u32 ((x.toNat : Int) / 2 ^ n) ((x.toNat : Int) * 2 ^ m % 4294967296) = ((rr x n).toNat : Int) := by
  have e1 := b32_shl x m
  have e2 := b32_shr x n
  rw [Int.natCast_pow] at e1 e2
  rw [IntKind.wrap_u32] at e1
  rw [show ((2 : Nat) : Int) = 2 from rfl] at e1 e2
  rw [e1, e2, b32_or]
  unfold rr
  rw [show 32 - n = m by omega]

set_option maxRecDepth 100000 in
set_option maxHeartbeats 400000 in
theorem turnQ_any (x : B32) (n : Nat) (w : World) (h1 : 1 ≤ n) (h2 : n ≤ 31) : Calls Tryz.prog 166 #[.int .u32 (x.toNat : Int), .int .i64 (n : Int)] w fun e w' => e = .returned (.int .u32 ((rr x n).toNat : Int)) ∧ ∃ q, w' = w.drewN q := by
  obtain ⟨m, hm⟩ : ∃ m, m + n = 32 := ⟨32 - n, by omega⟩
  have e1 : IntKind.i64.wrap (32 - (n : Int)) = (m : Int) := by rw [IntWalk.i64_in _ (by constructor <;> omega)]; omega
  have e2 : (0 : Int) ≤ (n : Int) := by omega
  have e3 : (0 : Int) ≤ (m : Int) := by omega
  have e4 : m < 32 := by omega
  have e5 : n < 32 := by omega
  have HRR := Lib.hid (rr_walkQ x m n hm)
  clear hm
  go_enter Tryz.func166, Tryz.ntmps166
  go_wp2_with fail
  go_quiet (fail)
  go_wp2_with fail
  go_ret
  refine ⟨?_, nq, rfl⟩
  show Ending.returned (.int .u32 (bits .or .u32 ((x.toNat : Int) / 2 ^ n) ((x.toNat : Int) * 2 ^ m % 4294967296))) = _
  rw [HRR.out]

set_option maxRecDepth 100000 in
set_option maxHeartbeats 1000000 in
theorem tableQ_any (w : World) : Calls Tryz.prog 165 #[] w fun e w' => e = .returned (.slice (some ⟨w.heap.size, 0, none⟩) 64 64) ∧ Blk w' w.heap.size 183 (v32s kTab) ∧ Mod Non w w' := by
  go_enter Tryz.func165, Tryz.ntmps165
  go_wp2_with fail
  go_ret
  refine ⟨rfl, ?_, (Mod.refl _ _).alloc _⟩
  rw [← kVals_eq]
  exact Blk.new w 183 kVals

/-- the words' row of the type table. -/
structure WordT (P : Program) (t e : TypeId) : Prop where
  sl : P.underlying t = some (.slice e)
  info : ∃ i, P.info? e = some i ∧ i.zero = some (.int .u32 0) ∧ i.size = 1 ∧ i.bytes = 4
theorem wt : WordT Tryz.prog 188 183 := by
  refine ⟨Tryz.underlying188, ?_⟩
  obtain ⟨i, hi, h1, h2, h3⟩ := info_parts (P := Tryz.prog) (e := 183) (z := .int .u32 0) (size := 1) (bytes := 4) (by kernel_rfl)
  exact ⟨i, hi, h1, h2, h3⟩
def v32l (l : List B32) : List Value := l.map v32
theorem v32l_len (l : List B32) : (v32l l).length = l.length := by simp [v32l]
theorem v32l_append (l k : List B32) : v32l (l ++ k) = v32l l ++ v32l k := by simp [v32l]
theorem v32l_get (l : List B32) (j : Nat) : (v32l l)[j]? = l[j]?.map v32 := by simp [v32l]
theorem v32l_one (l : List B32) : ∀ u ∈ v32l l, u.oneCell' = true := by
  intro u hu
  simp only [v32l, List.mem_map] at hu
  obtain ⟨c, _, rfl⟩ := hu
  rfl

/-- append of words, as one operation. -/
theorem wp_app32 {P : Program} {t e : TypeId} (T : WordT P t e) (w : World) {o : Oper} {a : Act} {K : Act → World → Prop} {Q : Exit → Act → World → Prop} (s x : Operand)
    (ho : o.op = .call { callee := .builtin .append, args := #[s, x], argTypes := #[t, t] })
    (base : Nat) (v : Value) (n : Nat) (xs : List B32) (hs : a.eval s = v) (hown : w.ownsRow base e 1 v n (v32l xs))
    (A : Option Addr) (m c : Nat) (news : List B32) (hx : a.eval x = .slice A m c) (hr : Rd w A m (v32l news))
    (k : Nat) (hk : n + m = k) (ys : List B32) (hy : xs ++ news = ys)
    (h63 : k ≤ 1000000000) (hbase : base ≤ w.heap.size)
    (h : ∀ A' c' w', k ≤ c' → c' ≤ 9223372036854775807 → w'.ownsRow base e 1 (.slice A' k c') k (v32l ys) → w.grownBy w' v.ownBlock → (blkOf A' = v.ownBlock ∨ blkOf A' = some w.heap.size) → K (a.put o.dst (.slice A' k c')) w') : o.wp P a w K Q := by
  obtain ⟨i, hi, hz, hs1, hb⟩ := T.info
  subst hk
  subst hy
  refine wp_app w s x t ho base e i (.int .u32 0) 4 T.sl hi hz hs1 hb rfl v n (v32l xs) hs hown A m c (v32l news) hx hr (v32l_one _) (by simp only [maxLen]; omega) (by omega) hbase ?_
  intro v' w' hown' hg hat
  obtain ⟨A', c', rfl, hc, hc'⟩ := own_slice hown'
  rw [← v32l_append] at hown'
  exact h A' c' w' hc (by simpa [maxLen] using hc') hown' hg (by cases A' <;> exact hat)
theorem wpList_app32 {P : Program} {t e : TypeId} (T : WordT P t e) (w : World) {ops : Array Oper} {rest : List Oper} {o : Oper} {a : Act} {Q : Exit → Act → World → Prop} (hgd : o.guard = none) (s x : Operand)
    (ho : o.op = .call { callee := .builtin .append, args := #[s, x], argTypes := #[t, t] })
    (base : Nat) (v : Value) (n : Nat) (xs : List B32) (hs : a.eval s = v) (hown : w.ownsRow base e 1 v n (v32l xs))
    (A : Option Addr) (m c : Nat) (news : List B32) (hx : a.eval x = .slice A m c) (hr : Rd w A m (v32l news))
    (k : Nat) (hk : n + m = k) (ys : List B32) (hy : xs ++ news = ys)
    (h63 : k ≤ 1000000000) (hbase : base ≤ w.heap.size)
    (h : ∀ A' c' w', k ≤ c' → c' ≤ 9223372036854775807 → w'.ownsRow base e 1 (.slice A' k c') k (v32l ys) → w.grownBy w' v.ownBlock → (blkOf A' = v.ownBlock ∨ blkOf A' = some w.heap.size) → wpList P ops Q rest (a.put o.dst (.slice A' k c')) w') : wpList P ops Q (o :: rest) a w :=
  wpList_plain hgd fun _ hK => wp_app32 T w s x ho base v n xs hs hown A m c news hx hr k hk ys hy h63 hbase fun A' c' w' h1 h2 h3 h4 h5 => hK _ _ (h A' c' w' h1 h2 h3 h4 h5)
theorem step_app32 {P : Program} {t e : TypeId} (T : WordT P t e) (w : World) {ops : Array Oper} {o : Oper} {a : Act} {K : Act → World → Prop} {Q : Exit → Act → World → Prop} {Z : Prop} (hgd : o.guard = none) (s x : Operand)
    (ho : o.op = .call { callee := .builtin .append, args := #[s, x], argTypes := #[t, t] })
    (base : Nat) (v : Value) (n : Nat) (xs : List B32) (hs : a.eval s = v) (hown : w.ownsRow base e 1 v n (v32l xs))
    (A : Option Addr) (m c : Nat) (news : List B32) (hx : a.eval x = .slice A m c) (hr : Rd w A m (v32l news))
    (k : Nat) (hk : n + m = k) (ys : List B32) (hy : xs ++ news = ys)
    (h63 : k ≤ 1000000000) (hbase : base ≤ w.heap.size)
    (h : ∀ A' c' w', k ≤ c' → c' ≤ 9223372036854775807 → w'.ownsRow base e 1 (.slice A' k c') k (v32l ys) → w.grownBy w' v.ownBlock → (blkOf A' = v.ownBlock ∨ blkOf A' = some w.heap.size) → K (a.put o.dst (.slice A' k c')) w') : if Region.wanted o (yielded ops a.tmps) = true then Oper.wp P o a w K Q else Z := by
  have hw : Region.wanted o (yielded ops a.tmps) = true := by simp [Region.wanted, hgd]
  rw [if_pos hw]
  exact wp_app32 T w s x ho base v n xs hs hown A m c news hx hr k hk ys hy h63 hbase h
theorem one_word (w : World) (e : TypeId) (x : B32) : Rd (w.alloc (.cells #[v32 x] e)) (some ⟨w.heap.size, 0, none⟩) 1 (v32l [x]) := by
  refine ⟨rfl, fun _ => ⟨w.heap.size, 0, rfl, fun j u hu => ?_⟩⟩
  match j, hu with
  | 0, hu =>
    simp only [v32l, List.map_cons, List.map_nil, List.getElem?_cons_zero, Option.some.injEq] at hu
    subst hu
    simp

end Go.Proofs.YtgnpmmhpeianpaaGreatDoor
