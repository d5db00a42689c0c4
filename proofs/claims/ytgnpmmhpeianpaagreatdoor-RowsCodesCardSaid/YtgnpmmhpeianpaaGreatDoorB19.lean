/- sha.expand. -/
import Derived.Test.YtgnpmmhpeianpaaGreatDoorB11
import Derived.Deep.RegionHeld3
import Derived.Deep.QuietTactic
import Derived.BigQuiet
namespace Go.Proofs.YtgnpmmhpeianpaaGreatDoor
open Go.RowKit

def zLit : Array Value := #[.int .u32 0, .int .u32 0, .int .u32 0, .int .u32 0, .int .u32 0, .int .u32 0, .int .u32 0, .int .u32 0, .int .u32 0, .int .u32 0, .int .u32 0, .int .u32 0, .int .u32 0, .int .u32 0, .int .u32 0, .int .u32 0, .int .u32 0, .int .u32 0, .int .u32 0, .int .u32 0, .int .u32 0, .int .u32 0, .int .u32 0, .int .u32 0, .int .u32 0, .int .u32 0, .int .u32 0, .int .u32 0, .int .u32 0, .int .u32 0, .int .u32 0, .int .u32 0, .int .u32 0, .int .u32 0, .int .u32 0, .int .u32 0, .int .u32 0, .int .u32 0, .int .u32 0, .int .u32 0, .int .u32 0, .int .u32 0, .int .u32 0, .int .u32 0, .int .u32 0, .int .u32 0, .int .u32 0, .int .u32 0, .int .u32 0, .int .u32 0, .int .u32 0, .int .u32 0, .int .u32 0, .int .u32 0, .int .u32 0, .int .u32 0, .int .u32 0, .int .u32 0, .int .u32 0, .int .u32 0, .int .u32 0, .int .u32 0, .int .u32 0, .int .u32 0]
theorem zLit_eq : zLit = v32s (List.replicate 64 0) := by kernel_rfl
/-- so many words, and noughts. -/
def upTo (ws : List B32) : List B32 := ws ++ List.replicate (64 - ws.length) 0
theorem upTo_len {ws : List B32} (h : ws.length ≤ 64) : (upTo ws).length = 64 := by simp [upTo]; omega
theorem upTo_nil : upTo [] = List.replicate 64 0 := rfl
theorem upTo_full {ws : List B32} (h : ws.length = 64) : upTo ws = ws := by simp [upTo, h]
theorem upTo_set {ws : List B32} (x : B32) (h : ws.length < 64) : (upTo ws).set ws.length x = upTo (ws ++ [x]) := by
  unfold upTo
  rw [List.set_append_right _ _ (Nat.le_refl _), Nat.sub_self, List.length_append, List.length_singleton, List.append_assoc]
  obtain ⟨m, hm⟩ : ∃ m, 64 - ws.length = m + 1 := ⟨63 - ws.length, by omega⟩
  rw [hm, show 64 - (ws.length + 1) = m by omega]
  rfl
theorem upTo_get {ws : List B32} {k : Nat} (h : k < ws.length) : (upTo ws).getD k 0 = ws.getD k 0 := by
  unfold upTo
  simp [List.getD_eq_getElem?_getD, List.getElem?_append_left h]

theorem rotL (x : B32) (n : Nat) (z : Int) (hz : z = -(n : Int)) (h1 : 1 ≤ n) (h2 : n ≤ 31) (w : World) : Calls Tryz.prog 218 #[.int .u32 (x.toNat : Int), .int .i64 z] w fun e w' => e = .returned (.int .u32 ((rr x n).toNat : Int)) ∧ w = w' := by
  rw [hz]
  exact rotl_any x n w h1 h2
theorem sl_walk (x : B32) (a b c : Nat) (d : Int) (hd : d = ((2 ^ c : Nat) : Int)) : bits .xor .u32 (bits .xor .u32 ((rr x a).toNat : Int) ((rr x b).toNat : Int)) ((x.toNat : Int) / d) = ((sl x a b c).toNat : Int) := by
  rw [b32_xor, hd, b32_shr, b32_xor]
  rfl
theorem orU32 (a b : Nat) (ha : a < 4294967296) (hb : b < 4294967296) : bits .or .u32 (a : Int) (b : Int) = ((a ||| b : Nat) : Int) := by
  show IntKind.u32.wrap ((BitVec.ofInt 32 (a : Int) ||| BitVec.ofInt 32 (b : Int)).toNat : Nat) = _
  rw [BitVec.ofInt_natCast, BitVec.ofInt_natCast, BitVec.toNat_or, BitVec.toNat_ofNat, BitVec.toNat_ofNat, Nat.mod_eq_of_lt (by omega), Nat.mod_eq_of_lt (by omega), IntKind.wrap_u32]
  have := Nat.or_lt_two_pow (n := 32) (x := a) (y := b) (by omega) (by omega)
  omega
theorem orAdd (a b i : Nat) (h : b < 2 ^ i) : (a * 2 ^ i) ||| b = a * 2 ^ i + b := by
  rw [← Nat.shiftLeft_eq, ← Nat.shiftLeft_add_eq_or_of_lt h]
theorem word_or (b0 b1 b2 b3 : UInt8) : bits BinOp.or IntKind.u32 (bits BinOp.or IntKind.u32 (bits BinOp.or IntKind.u32 (IntKind.u32.wrap (IntKind.u32.wrap (b0.toNat : Int) * 16777216)) (IntKind.u32.wrap (IntKind.u32.wrap (b1.toNat : Int) * 65536))) (IntKind.u32.wrap (IntKind.u32.wrap (b2.toNat : Int) * 256))) (IntKind.u32.wrap (b3.toNat : Int)) =
    ((BitVec.ofNat 32 (b0.toNat * 16777216 + b1.toNat * 65536 + b2.toNat * 256 + b3.toNat)).toNat : Int) := by
  have h0 := b0.toNat_lt
  have h1 := b1.toNat_lt
  have h2 := b2.toNat_lt
  have h3 := b3.toNat_lt
  simp only [IntKind.wrap_u32]
  rw [show ((b0.toNat : Int) % 4294967296 * 16777216) % 4294967296 = ((b0.toNat * 256 * 2 ^ 16 : Nat) : Int) by omega,
    show ((b1.toNat : Int) % 4294967296 * 65536) % 4294967296 = ((b1.toNat * 65536 : Nat) : Int) by omega,
    show ((b2.toNat : Int) % 4294967296 * 256) % 4294967296 = ((b2.toNat * 256 : Nat) : Int) by omega,
    show ((b3.toNat : Int) % 4294967296) = ((b3.toNat : Nat) : Int) by omega]
  rw [orU32 _ _ (by omega) (by omega), show b0.toNat * 256 * 2 ^ 16 = b0.toNat * 2 ^ 24 by omega, orAdd _ _ 24 (by omega)]
  rw [orU32 _ _ (by omega) (by omega), show b0.toNat * 2 ^ 24 + b1.toNat * 65536 = (b0.toNat * 256 + b1.toNat) * 2 ^ 16 by omega, orAdd _ _ 16 (by omega)]
  rw [orU32 _ _ (by omega) (by omega), show (b0.toNat * 256 + b1.toNat) * 2 ^ 16 + b2.toNat * 256 = (b0.toNat * 65536 + b1.toNat * 256 + b2.toNat) * 2 ^ 8 by omega, orAdd _ _ 8 (by omega)]
  rw [BitVec.toNat_ofNat]
  omega

set_option maxRecDepth 100000 in
set_option maxHeartbeats 4000000 in
theorem expand_any (A : Option Addr) (n c : Nat) (l : List UInt8) (w : World) (h : Rd w A n (by8 l)) (hn : 64 ≤ n) (hn2 : n ≤ 140737488355328) :
    Calls Tryz.prog 162 #[.slice A n c] w fun e w' => e = .returned (.agg (v32s (wordsOf l))) ∧ Mod Non w w' := by
  have HH := Lib.hid h
  have hll : l.length = n := by simpa using h.1
  have HLL := Lib.hid hll
  clear h hll
  go_enter Tryz.func162, Tryz.ntmps162
  go_wp2_with fail
  generalize hw2 : (World.alloc (w.alloc _) _) = w2
  have hz2 : w2.heap.size = w.heap.size + 2 := by rw [← hw2]; simp
  have hm2 : Mod Non w w2 := by rw [← hw2]; exact ((Mod.refl _ _).alloc _).alloc _
  have hb2 : Blk w2 (w.heap.size + 1) 265 (v32s (upTo [])) := by
    rw [upTo_nil, ← zLit_eq, ← hw2]
    have := Blk.new (w.alloc (.cells zLit 265)) 265 zLit
    rw [World.size_alloc] at this
    exact this
  have hr2 : Blk w2 w.heap.size 265 zLit := by
    rw [← hw2]
    exact (Blk.new w 265 zLit).alloc _
  have HZ2 := Lib.hid hz2
  have HM2 := Lib.hid hm2
  have HB2 := Lib.hid hb2
  have HR2 := Lib.hid hr2
  clear hw2 hz2 hm2 hb2 hr2
  go_loopw [10] (fun i wr => ∃ (k : Nat), k ≤ 16 ∧ i = .int .i64 k ∧ Hid (Blk wr (w.heap.size + 1) 265 (v32s (upTo (words16 l k)))) ∧ Hid (Blk wr w.heap.size 265 zLit) ∧ Hid (Mod Non w wr) ∧ w.heap.size + 2 ≤ wr.heap.size) (fun i _ => 16 - (intOf i).toNat)
  case atStart => exact ⟨0, Nat.zero_le _, rfl, HB2.out, HR2.out, HM2.out, by have := HZ2.out; omega⟩
  case round =>
    obtain ⟨k, hk, rfl, HB, HR, HM, hzr⟩ := hrel
    rename World => wr
    by_cases hlt : k < 16
    · obtain ⟨m, hm⟩ : ∃ m, 4 * k = m := ⟨_, rfl⟩
      have hrd := HH.out.mod0 HM.out
      obtain ⟨B, O, hA, u0, hu0, e0⟩ := hrd.at_ (k := m) (by omega)
      obtain ⟨_, _, hA1, u1, hu1, e1⟩ := hrd.at_ (k := m + 1) (by omega)
      obtain ⟨_, _, hA2, u2, hu2, e2⟩ := hrd.at_ (k := m + 2) (by omega)
      obtain ⟨_, _, hA3, u3, hu3, e3⟩ := hrd.at_ (k := m + 3) (by omega)
      subst hA
      cases hA1
      cases hA2
      cases hA3
      rw [by8_get] at hu0 hu1 hu2 hu3
      obtain ⟨b0, hb0, rfl⟩ := Option.map_eq_some_iff.1 hu0
      obtain ⟨b1, hb1, rfl⟩ := Option.map_eq_some_iff.1 hu1
      obtain ⟨b2, hb2, rfl⟩ := Option.map_eq_some_iff.1 hu2
      obtain ⟨b3, hb3, rfl⟩ := Option.map_eq_some_iff.1 hu3
      have hwa : wordAt l k = BitVec.ofNat 32 (b0.toNat * 16777216 + b1.toNat * 65536 + b2.toNat * 256 + b3.toNat) := by
        unfold wordAt
        rw [hm]
        simp only [List.getD_eq_getElem?_getD, hb0, hb1, hb2, hb3, Option.getD_some]
      have hBw : B < w.heap.size := by
        obtain ⟨b', h1, h2⟩ := HH.out.lt (by omega)
        cases h1
        exact h2
      have hne : B ≠ w.heap.size + 1 := by omega
      have cr : wr.cell? ⟨w.heap.size + 1, k, none⟩ = some (v32 ((upTo (words16 l k)).getD k 0)) := by
        rw [HB.out.cell k]
        exact v32s_get _ _ (by rw [upTo_len (by rw [words16_len]; omega)]; omega)
      have fr := HB.out.frozen k
      have HWA := Lib.hid hwa
      have i1 : (0 : Int) ≤ (k : Int) := by omega
      have i2 : (k : Int) < 16 := by omega
      have v0 : IntKind.i64.wrap (4 * (k : Int)) = (m : Int) := by rw [IntWalk.i64_in _ (by constructor <;> omega)]; omega
      have v1 : IntKind.i64.wrap ((m : Int) + 1) = (m : Int) + 1 := IntWalk.i64_in _ (by constructor <;> omega)
      have v2 : IntKind.i64.wrap ((m : Int) + 2) = (m : Int) + 2 := IntWalk.i64_in _ (by constructor <;> omega)
      have v3 : IntKind.i64.wrap ((m : Int) + 3) = (m : Int) + 3 := IntWalk.i64_in _ (by constructor <;> omega)
      have t1 : ((m : Int) + 1).toNat = m + 1 := by omega
      have t2 : ((m : Int) + 2).toNat = m + 2 := by omega
      have t3 : ((m : Int) + 3).toNat = m + 3 := by omega
      have j0 : m < n := by omega
      have j1 : (m : Int) < (n : Int) := by omega
      have j2 : (0 : Int) ≤ (m : Int) + 1 := by omega
      have j3 : (m : Int) + 1 < (n : Int) := by omega
      have j4 : (0 : Int) ≤ (m : Int) + 2 := by omega
      have j5 : (m : Int) + 2 < (n : Int) := by omega
      have j6 : (0 : Int) ≤ (m : Int) + 3 := by omega
      have j7 : (m : Int) + 3 < (n : Int) := by omega
      have i8 : (k : Int) < 64 := by omega
      have i7 : k < 64 := by omega
      unfold b8 at e0 e1 e2 e3
      clear hm hrd hu0 hu1 hu2 hu3 hb0 hb1 hb2 hb3 hwa
      have HSK : Hid (∀ v, ((wr.setCell ⟨w.heap.size + 1, k, none⟩ v).drew).cell? ⟨B, O + m, none⟩ = some (.int .u8 (b0.toNat : Int)) ∧ ((wr.setCell ⟨w.heap.size + 1, k, none⟩ v).drew).cell? ⟨B, O + (m + 1), none⟩ = some (.int .u8 (b1.toNat : Int)) ∧ ((wr.setCell ⟨w.heap.size + 1, k, none⟩ v).drew).cell? ⟨B, O + (m + 2), none⟩ = some (.int .u8 (b2.toNat : Int)) ∧ ((wr.setCell ⟨w.heap.size + 1, k, none⟩ v).drew).cell? ⟨B, O + (m + 3), none⟩ = some (.int .u8 (b3.toNat : Int))) := fun v => by
        have hms : Mod (fun j => j = w.heap.size + 1) wr ((wr.setCell ⟨w.heap.size + 1, k, none⟩ v).drew) := ((Mod.refl _ _).set1 k v).drew
        exact ⟨hms.cell e0 hne, hms.cell e1 hne, hms.cell e2 hne, hms.cell e3 hne⟩
      go_wp2_with fail
      go_region_held3 (fun w' => w'.cell? ⟨B, O + m, none⟩ = some (.int .u8 (b0.toNat : Int)) ∧ w'.cell? ⟨B, O + (m + 1), none⟩ = some (.int .u8 (b1.toNat : Int)) ∧ w'.cell? ⟨B, O + (m + 2), none⟩ = some (.int .u8 (b2.toNat : Int)) ∧ w'.cell? ⟨B, O + (m + 3), none⟩ = some (.int .u8 (b3.toNat : Int))) (first | exact ⟨e0, e1, e2, e3⟩ | exact HSK.out _ | go_keep) (first | fail)
      rw [word_or, ← HWA.out]
      have hset := HB.out.set_ k (v32 (wordAt l k))
      have hkl : (words16 l k).length = k := words16_len l k
      have hs2 : (upTo (words16 l k)).set k (wordAt l k) = upTo (words16 l (k + 1)) := by
        rw [words16_succ]
        conv => lhs; rw [← hkl]
        rw [hkl]
        have := upTo_set (ws := words16 l k) (wordAt l k) (by omega)
        rw [hkl] at this
        exact this
      rw [v32s_set, hs2] at hset
      obtain ⟨w3, hw3⟩ : ∃ w3, w3 = (wr.setCell ⟨w.heap.size + 1, k, none⟩ (.int .u32 ((wordAt l k).toNat : Int))).drew := ⟨_, rfl⟩
      have HB3 : Hid (Blk w3 (w.heap.size + 1) 265 (v32s (upTo (words16 l (k + 1))))) := by rw [hw3]; exact hset.drew
      have HR3 : Hid (Blk w3 w.heap.size 265 zLit) := by rw [hw3]; exact (HR.out.far (by simp only; omega) _).drew
      have HM3 : Hid (Mod Non w w3) := by rw [hw3]; exact (HM.out.setCell (p := ⟨w.heap.size + 1, k, none⟩) (.inr (by simp only; omega)) _).drew
      have hz3 : w.heap.size + 2 ≤ w3.heap.size := by rw [hw3]; simpa [World.setCell] using hzr
      rw [← hw3]
      clear hw3 hset hs2 hkl cr fr e0 e1 e2 e3 HSK
      go_wp2_with fail
      go_roundw
      case rel => exact ⟨k + 1, by omega, by go_num, HB3.out, HR3.out, HM3.out, hz3⟩
      case measure => simp [intOf]; omega
    · have hk16 : k = 16 := by omega
      rw [hk16] at HB
      have hd : decide ((k : Int) < 16) = false := decide_eq_false (by omega)
      clear hk16
      go_wp2_with fail
      go_loopw [5] (fun i wx => ∃ (t : Nat), 16 ≤ t ∧ t ≤ 64 ∧ i = .int .i64 t ∧ Hid (Blk wx (w.heap.size + 1) 265 (v32s (upTo (growW (t - 16) (words16 l 16))))) ∧ Hid (Blk wx w.heap.size 265 zLit) ∧ Hid (Mod Non w wx) ∧ w.heap.size + 2 ≤ wx.heap.size) (fun i _ => 64 - (intOf i).toNat)
      case atStart => exact ⟨16, Nat.le_refl _, by omega, rfl, HB.out, HR.out, HM.out, hzr⟩
      case round =>
        clear HB HR HM hzr
        obtain ⟨t, ht, ht2, rfl, HB, HR, HM, hzx⟩ := hrel
        rename World => wx
        by_cases hlt2 : t < 64
        · obtain ⟨ws, hws⟩ : ∃ ws, growW (t - 16) (words16 l 16) = ws := ⟨_, rfl⟩
          have hwl : ws.length = t := by rw [← hws, growW_len, words16_len]; omega
          have hnext : growW (t + 1 - 16) (words16 l 16) = ws ++ [nextW ws] := by
            rw [show t + 1 - 16 = (t - 16) + 1 by omega, growW, hws]
          rw [hws] at HB
          obtain ⟨p16, hp16⟩ : ∃ p, t = p + 16 := ⟨t - 16, by omega⟩
          obtain ⟨p15, hp15⟩ : ∃ p, t = p + 15 := ⟨t - 15, by omega⟩
          obtain ⟨p7, hp7⟩ : ∃ p, t = p + 7 := ⟨t - 7, by omega⟩
          obtain ⟨p2, hp2⟩ : ∃ p, t = p + 2 := ⟨t - 2, by omega⟩
          have cell : ∀ q, q < t → wx.cell? ⟨w.heap.size + 1, q, none⟩ = some (.int .u32 ((ws.getD q 0).toNat : Int)) := fun q hq => by
            rw [HB.out.cell q, v32s_get _ _ (by rw [upTo_len (by omega)]; omega), upTo_get (by omega)]
            rfl
          have c16 := cell p16 (by omega)
          have c15 := cell p15 (by omega)
          have c7 := cell p7 (by omega)
          have c2 := cell p2 (by omega)
          have hnw : nextW ws = ws.getD p16 0 + sl (ws.getD p15 0) 7 18 3 + ws.getD p7 0 + sl (ws.getD p2 0) 17 19 10 := by
            unfold nextW
            rw [hwl, show t - 16 = p16 by omega, show t - 15 = p15 by omega, show t - 7 = p7 by omega, show t - 2 = p2 by omega]
          have cr : wx.cell? ⟨w.heap.size + 1, t, none⟩ = some (v32 ((upTo ws).getD t 0)) := by
            rw [HB.out.cell t]
            exact v32s_get _ _ (by rw [upTo_len (by omega)]; omega)
          have fr := HB.out.frozen t
          obtain ⟨x16, hx16⟩ : ∃ x, ws.getD p16 0 = x := ⟨_, rfl⟩
          obtain ⟨x15, hx15⟩ : ∃ x, ws.getD p15 0 = x := ⟨_, rfl⟩
          obtain ⟨x7, hx7⟩ : ∃ x, ws.getD p7 0 = x := ⟨_, rfl⟩
          obtain ⟨x2, hx2⟩ : ∃ x, ws.getD p2 0 = x := ⟨_, rfl⟩
          rw [hx16] at c16 hnw
          rw [hx15] at c15 hnw
          rw [hx7] at c7 hnw
          rw [hx2] at c2 hnw
          have HNW := Lib.hid hnw
          have HNX := Lib.hid hnext
          have HWL := Lib.hid hwl
          have v16 : IntKind.i64.wrap ((t : Int) - 16) = (p16 : Int) := by rw [IntWalk.i64_in _ (by constructor <;> omega)]; omega
          have v15 : IntKind.i64.wrap ((t : Int) - 15) = (p15 : Int) := by rw [IntWalk.i64_in _ (by constructor <;> omega)]; omega
          have v7 : IntKind.i64.wrap ((t : Int) - 7) = (p7 : Int) := by rw [IntWalk.i64_in _ (by constructor <;> omega)]; omega
          have v2 : IntKind.i64.wrap ((t : Int) - 2) = (p2 : Int) := by rw [IntWalk.i64_in _ (by constructor <;> omega)]; omega
          have q16 : (p16 : Int) < 64 := by omega
          have q15 : (p15 : Int) < 64 := by omega
          have q7 : (p7 : Int) < 64 := by omega
          have q2 : (p2 : Int) < 64 := by omega
          have r16 : p16 < 64 := by omega
          have r15 : p15 < 64 := by omega
          have r7 : p7 < 64 := by omega
          have r2 : p2 < 64 := by omega
          have u16 : (t : Int) - 16 = (p16 : Int) := by omega
          have u15 : (t : Int) - 15 = (p15 : Int) := by omega
          have u7 : (t : Int) - 7 = (p7 : Int) := by omega
          have u2 : (t : Int) - 2 = (p2 : Int) := by omega
          have i1 : (0 : Int) ≤ (t : Int) := by omega
          have i2 : (t : Int) < 64 := by omega
          have n16 : p16 ≠ t := by omega
          have n7 : p7 ≠ t := by omega
          have N16 := Lib.hid n16
          have N7 := Lib.hid n7
          clear hnw hnext hwl hws hx16 hx15 hx7 hx2 cell hp16 hp7 hp15 hp2 n16 n7
          go_wp2_with fail
          go_quiet (fail)
          have H7 : Hid (∀ W, Calls Tryz.prog 218 #[.int .u32 (x15.toNat : Int), .int .i64 (-7)] W fun e w' => e = .returned (.int .u32 ((rr x15 7).toNat : Int)) ∧ W = w') := rotL x15 7 (-7) rfl (by omega) (by omega)
          have H18 : Hid (∀ W, Calls Tryz.prog 218 #[.int .u32 (x15.toNat : Int), .int .i64 (-18)] W fun e w' => e = .returned (.int .u32 ((rr x15 18).toNat : Int)) ∧ W = w') := rotL x15 18 (-18) rfl (by omega) (by omega)
          have H17 : Hid (∀ W, Calls Tryz.prog 218 #[.int .u32 (x2.toNat : Int), .int .i64 (-17)] W fun e w' => e = .returned (.int .u32 ((rr x2 17).toNat : Int)) ∧ W = w') := rotL x2 17 (-17) rfl (by omega) (by omega)
          have H19 : Hid (∀ W, Calls Tryz.prog 218 #[.int .u32 (x2.toNat : Int), .int .i64 (-19)] W fun e w' => e = .returned (.int .u32 ((rr x2 19).toNat : Int)) ∧ W = w') := rotL x2 19 (-19) rfl (by omega) (by omega)
          have s0 := sl_walk x15 7 18 3 8 rfl
          have s1 := sl_walk x2 17 19 10 1024 rfl
          go_wp2_with (first
            | (go_at_call 218; with_reducible refine (H7.out _).mono ?_; rintro e wy ⟨rfl, rfl⟩)
            | (go_at_call 218; with_reducible refine (H18.out _).mono ?_; rintro e wy ⟨rfl, rfl⟩)
            | (go_at_call 218; with_reducible refine (H17.out _).mono ?_; rintro e wy ⟨rfl, rfl⟩)
            | (go_at_call 218; with_reducible refine (H19.out _).mono ?_; rintro e wy ⟨rfl, rfl⟩)
            | fail)
          generalize hwq : World.drewN wx _ = wq
          have HBq : Hid (Blk wq (w.heap.size + 1) 265 (v32s (upTo ws))) := by rw [← hwq]; exact HB.out.drewN _
          have HRq : Hid (Blk wq w.heap.size 265 zLit) := by rw [← hwq]; exact HR.out.drewN _
          have HMq : Hid (Mod Non w wq) := by rw [← hwq]; exact HM.out.drewN _
          have hzq : w.heap.size + 2 ≤ wq.heap.size := by rw [← hwq]; exact hzx
          have d16 : wq.cell? ⟨w.heap.size + 1, p16, none⟩ = some (.int .u32 (x16.toNat : Int)) := by rw [← hwq]; exact c16
          have d7 : wq.cell? ⟨w.heap.size + 1, p7, none⟩ = some (.int .u32 (x7.toNat : Int)) := by rw [← hwq]; exact c7
          have dr : wq.cell? ⟨w.heap.size + 1, t, none⟩ = some (v32 ((upTo ws).getD t 0)) := by rw [← hwq]; exact cr
          have fq := HBq.out.frozen t
          have HSK : Hid (∀ v, ((wq.setCell ⟨w.heap.size + 1, t, none⟩ v).drew).cell? ⟨w.heap.size + 1, p16, none⟩ = some (.int .u32 (x16.toNat : Int)) ∧ ((wq.setCell ⟨w.heap.size + 1, t, none⟩ v).drew).cell? ⟨w.heap.size + 1, p7, none⟩ = some (.int .u32 (x7.toNat : Int))) := fun v => by
            have h1 : ∀ p, p ≠ t → (wq.setCell ⟨w.heap.size + 1, t, none⟩ v).cell? ⟨w.heap.size + 1, p, none⟩ = wq.cell? ⟨w.heap.size + 1, p, none⟩ := fun p hp => World.cell?_setCell_other _ _ _ _ (by intro e; cases e; exact hp rfl)
            exact ⟨(h1 p16 N16.out).trans d16, (h1 p7 N7.out).trans d7⟩
          clear hwq c16 c15 c7 c2 cr fr HB HR HM hzx H7 H18 H17 H19 s0 s1 u16 u15 u7 u2
          go_region_held3 (fun w' => w'.cell? ⟨w.heap.size + 1, p16, none⟩ = some (.int .u32 (x16.toNat : Int)) ∧ w'.cell? ⟨w.heap.size + 1, p7, none⟩ = some (.int .u32 (x7.toNat : Int))) (first | exact ⟨d16, d7⟩ | exact HSK.out _ | go_keep) (first | fail)
          simp only [b32_add]
          rw [← HNW.out]
          have hset := HBq.out.set_ t (v32 (nextW ws))
          have hs2 : (upTo ws).set t (nextW ws) = upTo (ws ++ [nextW ws]) := by
            have := upTo_set (ws := ws) (nextW ws) (by rw [HWL.out]; omega)
            rwa [HWL.out] at this
          rw [v32s_set, hs2, ← HNX.out] at hset
          obtain ⟨w3, hw3⟩ : ∃ w3, w3 = (wq.setCell ⟨w.heap.size + 1, t, none⟩ (.int .u32 ((nextW ws).toNat : Int))).drew := ⟨_, rfl⟩
          have HB3 : Hid (Blk w3 (w.heap.size + 1) 265 (v32s (upTo (growW (t + 1 - 16) (words16 l 16))))) := by rw [hw3]; exact hset.drew
          have HR3 : Hid (Blk w3 w.heap.size 265 zLit) := by rw [hw3]; exact (HRq.out.far (by simp only; omega) _).drew
          have HM3 : Hid (Mod Non w w3) := by rw [hw3]; exact (HMq.out.setCell (p := ⟨w.heap.size + 1, t, none⟩) (.inr (by simp only; omega)) _).drew
          have hz3 : w.heap.size + 2 ≤ w3.heap.size := by rw [hw3]; simpa [World.setCell] using hzq
          rw [← hw3]
          clear hw3 hset hs2 d16 d7 dr fq HSK v16 v15 v7 v2
          go_wp2_with fail
          go_roundw
          case rel => exact ⟨t + 1, by omega, by omega, by go_num, HB3.out, HR3.out, HM3.out, hz3⟩
          case measure => simp [intOf]; omega
        · obtain rfl : t = 64 := by omega
          have hwo : growW (64 - 16) (words16 l 16) = wordsOf l := rfl
          rw [hwo, upTo_full (wordsOf_len l)] at HB
          have hsz : (v32s (wordsOf l)).size = 64 := by rw [v32s_size, wordsOf_len]
          have hi := hi64
          have h1 := v32s_one (wordsOf l)
          rw [← hsz] at hi
          obtain ⟨V, hV⟩ : ∃ V, v32s (wordsOf l) = V := ⟨_, rfl⟩
          rw [hV] at HB hi h1 hsz
          have HI := Lib.hid hi
          have H1 := Lib.hid h1
          have HS : Hid (zLit.size = V.size) := by show _ = _; rw [hsz]; rfl
          have HV := Lib.hid hV
          clear hi h1 hsz hV
          go_wp2_with (first
            | (refine wpList_load_row rfl 265 (.tmp 3) rfl (w.heap.size + 1) rfl _ _ (0, 0) _ HB.out Tryz.underlying265 rfl HI.out ?_)
            | (refine wpList_store_row rfl 265 (.tmp 2) (.tmp 92) rfl w.heap.size V rfl rfl _ _ HR.out HI.out HS.out H1.out ?_)
            | fail)
          refine bodyPost_ret (results_cell_row rfl _ _ w.heap.size 265 _ (0, 0) _ rfl (HR.out.row V) Tryz.underlying265 rfl HI.out) rfl ?_
          exact ⟨by rw [HV.out], HM.out.setRow (.inr (Nat.le_refl _)) _⟩

end Go.Proofs.YtgnpmmhpeianpaaGreatDoor
