/- sawyerref02: PutNum, Crc. -/
import Derived.Test.YtdpjnpjmokncdaaGreatDoorB17
import Derived.Test.YtdpjnpjmokncdaaGreatDoorB24
import Derived.Laws.BitsLemmas
import Derived.Test.YtdpjnpjmokncdaaGreatDoorB09
import Derived.Test.YtdpjnpjmokncdaaGreatDoorB22
import Derived.Test.YtdpjnpjmokncdaaGreatDoorB23
import Derived.Test.YtdpjnpjmokncdaaGreatDoorB15
namespace Go.Proofs.YtdpjnpjmokncdaaGreatDoor
open Go.RowKit

theorem b8_more (r : Nat) : b8 (moreB r) = .int .u8 (128 + (r : Int) % 128) := by
  obtain ⟨h1, h2⟩ := moreB_nat r
  have h3 := (moreB r).toNat_lt
  unfold b8
  congr 1
  omega

set_option maxRecDepth 100000 in
set_option maxHeartbeats 1000000 in
theorem putNumR_any (A : Option Addr) (n c : Nat) (l : List UInt8) (x : Int) (w : World) (h : Rd w A n (by8 l)) (hn : n ≤ 140737488351232) :
    Calls Tryz.prog 140 #[.slice A n c, .int .i64 x] w fun e w' => ∃ A' c', e = .returned (.slice A' (n + (numB (clampN x)).length) c') ∧
      w'.ownsRow w.heap.size 5 1 (.slice A' (n + (numB (clampN x)).length) c') (n + (numB (clampN x)).length) (by8 (l ++ numB (clampN x))) ∧ Below w.heap.size w w' := by
  have hN := clampN_le x
  have h9 := numB_len9 hN
  have hll : l.length = n := by simpa using h.1
  generalize hc : clampN x = N at *
  unfold clampN at hc
  have h3 : x < 0 ∧ N = 0 ∨ 0 ≤ x ∧ x ≤ 4611686018427387903 ∧ x = N ∨ 4611686018427387903 < x ∧ N = 4611686018427387903 := by omega
  clear hc
  obtain ⟨L, hL⟩ : ∃ L, l ++ numB N = L := ⟨_, rfl⟩
  have hLl : n + (numB N).length = L.length := by rw [← hL, List.length_append, hll]
  rw [hL, hLl]
  have hLb : L.length ≤ n + 9 := by omega
  have HLL := Lib.hid hll
  clear hLl h9 hll
  rcases h3 with ⟨hx, rfl⟩ | ⟨hx, hx2, rfl⟩ | ⟨hx, rfl⟩
  all_goals
    have HL := Lib.hid hL
    clear hL
    go_enter Tryz.func140, Tryz.ntmps140
    go_wp2_with (at_builtin
                 refine wpList_app8 bt _ rfl (.tmp 9) (.tmp 10) rfl w.heap.size (.slice none 0 0) 0 [] rfl (World.ownsRow_nil _ _ _ _) A n c l rfl h l.length (by rw [HLL.out]; omega) l rfl (by rw [HLL.out]; omega) (by simp) ?_
                 intro A1 c1 w1 hc1 ho1 hg1 hat1)
    have hb1 : Below w.heap.size w w1 := (Below.refl _ w).grown hg1 (by simp) (fun i hi => by simp [Value.ownBlock] at hi)
    have HB1 := Lib.hid hb1
    have HO1 := Lib.hid ho1
    clear hb1 ho1 hg1 hat1
    go_loopw [1, 5] (fun x v wr => ∃ (r : Nat) (d : List UInt8) (A' : Option Addr) (c' : Nat), x = .int .i64 r ∧ v = .slice A' d.length c' ∧ wr.ownsRow w.heap.size 5 1 (.slice A' d.length c') d.length (by8 d) ∧ Below w.heap.size w wr ∧ Hid (d ++ numB r = L) ∧ r ≤ 4611686018427387903) (fun x _ _ => (intOf x).toNat)
    case atStart => exact ⟨_, l, A1, c1, congrArg (Value.int .i64) (by omega), rfl, HO1.out, HB1.out, HL.out, by omega⟩
    case round =>
      obtain ⟨r, d, A', c', rfl, rfl, ho, hb, HD, hr⟩ := hrel
      have HB := Lib.hid hb
      have hsz := hb.size
      clear hb
      have hdl : d.length + (numB r).length = L.length := by rw [← HD.out]; simp
      have hrp := numB_pos r
      by_cases hlt : 128 ≤ r
      · have H2 : Hid (d ++ [moreB r] ++ numB (r / 128) = L) := by
          have := HD.out
          rw [numB_more hlt] at this
          show d ++ [moreB r] ++ numB (r / 128) = L
          simpa using this
        have hone := one_byte wr 5 (moreB r)
        rw [b8_more] at hone
        have HO := Lib.hid hone
        have hd2 : d.length + 1 ≤ n + 9 := by omega
        clear hone HD hdl hrp
        go_wp2_with (at_builtin; refine wpList_app8 bt _ rfl (.tmp 14) (.tmp 19) rfl w.heap.size (.slice A' d.length c') d.length d rfl (ho.alloc _) _ 1 1 [moreB r] rfl HO.out (d.length + 1) rfl (d ++ [moreB r]) rfl (by omega) (by simp; omega) ?_; intro A2 c2 w2 hc2 ho2 hg2 hat2)
        go_roundw
        case rel =>
          refine ⟨r / 128, d ++ [moreB r], A2, c2, ?_, by simp, by simpa using ho2, (HB.out.alloc hsz _).grown hg2 (by simp; omega) (fun i hi => (ho.lt i hi).1), H2, by omega⟩
          congr 1
        case measure => simp [intOf]; omega
      · have hlt : r < 128 := by omega
        have hq : (r : Int) % 256 = r := by omega
        have hL : d ++ [lowB r] = L := by have := HD.out; rwa [numB_last hlt] at this
        have hone := one_byte wr 5 (lowB r)
        rw [b8_lowB, hq] at hone
        have HO := Lib.hid hone
        have HL2 := Lib.hid hL
        have hll : d.length + 1 = L.length := by rw [← hL]; simp
        clear hL hone HD hq hdl hrp
        go_wp2_with (at_builtin; refine wpList_app8 bt _ rfl (.tmp 23) (.tmp 26) rfl w.heap.size (.slice A' d.length c') d.length d rfl (ho.alloc _) _ 1 1 [lowB r] rfl HO.out L.length hll L HL2.out (by omega) (by simp; omega) ?_; intro A2 c2 w2 hc2 ho2 hg2 hat2)
        go_ret
        exact ⟨A2, c2, rfl, ho2, (HB.out.alloc hsz _).grown hg2 (by simp; omega) (fun i hi => (ho.lt i hi).1)⟩

theorem and1 (y : Int) (h0 : 0 ≤ y) : bits .and .u32 y 1 = y % 2 := by
  show IntKind.u32.wrap ((BitVec.ofInt 32 y &&& BitVec.ofInt 32 1).toNat : Nat) = _
  have key : (BitVec.ofInt 32 y &&& BitVec.ofInt 32 1).toNat = (y % 2).toNat := by
    obtain ⟨k, rfl⟩ := Int.eq_ofNat_of_zero_le h0
    rw [BitVec.toNat_and, BitVec.ofInt_natCast, BitVec.toNat_ofNat]
    rw [show (BitVec.ofInt 32 1).toNat = 2 ^ 1 - 1 by decide, Nat.and_two_pow_sub_one_eq_mod]
    omega
  rw [key, IntKind.wrap_u32]
  omega
theorem andAll (y : Int) (h0 : 0 ≤ y) (h1 : y < 4294967296) : bits .and .u32 y 4294967295 = y := by
  show IntKind.u32.wrap ((BitVec.ofInt 32 y &&& BitVec.ofInt 32 4294967295).toNat : Nat) = _
  have key : (BitVec.ofInt 32 y &&& BitVec.ofInt 32 4294967295).toNat = y.toNat := by
    obtain ⟨k, rfl⟩ := Int.eq_ofNat_of_zero_le h0
    rw [BitVec.toNat_and, BitVec.ofInt_natCast, BitVec.toNat_ofNat]
    rw [show (BitVec.ofInt 32 4294967295).toNat = 2 ^ 32 - 1 by decide, Nat.and_two_pow_sub_one_eq_mod]
    omega
  rw [key, IntKind.wrap_u32]
  omega
theorem and0 (y : Int) : bits .and .u32 y 0 = 0 := by
  show IntKind.u32.wrap ((BitVec.ofInt 32 y &&& BitVec.ofInt 32 0).toNat : Nat) = _
  simp [IntKind.wrap_u32]
theorem xor0 (y : Int) (h0 : 0 ≤ y) (h1 : y < 4294967296) : bits .xor .u32 y 0 = y := by
  show IntKind.u32.wrap ((BitVec.ofInt 32 y ^^^ BitVec.ofInt 32 0).toNat : Nat) = _
  obtain ⟨k, rfl⟩ := Int.eq_ofNat_of_zero_le h0
  simp [IntKind.wrap_u32, BitVec.toNat_ofNat]
  omega
theorem crcBit_odd {y : Int} (h0 : 0 ≤ y) (h : y % 2 = 1) : crcBit y = bits .xor .u32 (y / 2) 3988292384 := by
  unfold crcBit
  rw [and1 y h0, h, show (-1 : Int) % 4294967296 = 4294967295 by decide, andAll _ (by omega) (by omega)]
theorem crcBit_even {y : Int} (h0 : 0 ≤ y) (h1 : y < 4294967296) (h : y % 2 = 0) : crcBit y = y / 2 := by
  unfold crcBit
  rw [and1 y h0, h, show (-0 : Int) % 4294967296 = 0 by decide, and0, xor0 _ (by omega) (by omega)]
theorem crcIter_bd (j : Nat) (z : Int) (h : 0 ≤ z ∧ z < 4294967296) : 0 ≤ crcIter j z ∧ crcIter j z < 4294967296 := by
  cases j with
  | zero => exact h
  | succ j =>
    unfold crcIter crcBit
    exact bits_u32 _ _ _
theorem crcFold_bd (l : List UInt8) : 0 ≤ crcFold l ∧ crcFold l < 4294967296 := by
  rcases List.eq_nil_or_concat l with rfl | ⟨p, c, rfl⟩
  · simp [crcFold]
  · rw [List.concat_eq_append, crcFold_snoc]
    exact crcIter_bd 8 _ (bits_u32 _ _ _)

set_option maxRecDepth 100000 in
set_option maxHeartbeats 400000 in
theorem crcR_any (A : Option Addr) (n c : Nat) (l : List UInt8) (w : World) (h : Rd w A n (by8 l)) (hn : n ≤ 140737488355328) :
    Calls Tryz.prog 185 #[.slice A n c] w fun e w' => e = .returned (.int .u32 (crcOf l)) ∧ w = w' := by
  have hl : l.length = n := by simpa using h.1
  go_enter Tryz.func185, Tryz.ntmps185
  go_wp2
  go_loop [3, 4] (fun x i => ∃ k : Nat, k ≤ n ∧ i = .int .i64 k ∧ x = .int .u32 (crcFold (l.take k))) (fun _ i => n - (intOf i).toNat)
  case atStart => exact ⟨0, Nat.zero_le _, rfl, rfl⟩
  case round =>
    obtain ⟨k, hk, rfl, rfl⟩ := hrel
    by_cases hlt : k < n
    · obtain ⟨b, o, cb, rfl, hcb, hc⟩ := h.byte hlt
      have H : Hid (crcFold (l.take (k + 1)) = crcStep (crcFold (l.take k)) cb) := by rw [take_snoc l k cb hcb, crcFold_snoc]; rfl
      clear hcb
      have hb := cb.toNat_lt
      obtain ⟨z, hz⟩ : ∃ z, z = crcFold (l.take k) := ⟨_, rfl⟩
      rw [← hz] at H ⊢
      clear hz
      go_wp2
      go_loop [3, 5] (fun x i => ∃ (k : Nat) (y : Int), k ≤ 8 ∧ i = .int .i64 k ∧ x = .int .u32 y ∧ 0 ≤ y ∧ y < 4294967296 ∧ Hid (y = crcIter k (bits BinOp.xor IntKind.u32 z (cb.toNat : Int)))) (fun _ i => 8 - (intOf i).toNat)
      case atStart =>
        have := bits_u32 BinOp.xor z (cb.toNat : Int)
        exact ⟨0, _, Nat.zero_le _, rfl, rfl, this.1, this.2, rfl⟩
      case round =>
        obtain ⟨j, y, hj, rfl, rfl, hy0, hy1, HY⟩ := hrel
        by_cases hjl : j < 8
        · rcases (show y % 2 = 1 ∨ y % 2 = 0 by omega) with ho | ho
          · have hob : (y % 2 == 1) = true := by simp [ho]
            have HN : Hid (bits BinOp.xor IntKind.u32 (y / 2) 3988292384 = crcIter (j + 1) (bits BinOp.xor IntKind.u32 z (cb.toNat : Int))) := by show _ = crcBit _; rw [← HY.out, crcBit_odd hy0 ho]
            have hbd := bits_u32 BinOp.xor (y / 2) 3988292384
            clear ho
            go_wp2
            go_round
            case rel => exact ⟨j + 1, _, by omega, by go_num, rfl, hbd.1, hbd.2, HN⟩
            case measure => simp [intOf]; omega
          · have hob : (y % 2 == 1) = false := by simp [ho]
            have HN : Hid (y / 2 = crcIter (j + 1) (bits BinOp.xor IntKind.u32 z (cb.toNat : Int))) := by show _ = crcBit _; rw [← HY.out, crcBit_even hy0 hy1 ho]
            clear ho
            go_wp2
            go_round
            case rel => exact ⟨j + 1, _, by omega, by go_num, rfl, by omega, by omega, HN⟩
            case measure => simp [intOf]; omega
        · obtain rfl : j = 8 := by omega
          have HF : Hid (crcFold (l.take (k + 1)) = y) := by show _ = _; rw [H.out, HY.out]; rfl
          clear HY
          go_wp2
          go_round
          case rel => exact ⟨k + 1, by omega, by go_num, by rw [HF.out]⟩
          case measure => simp [intOf]; omega
    · obtain rfl : k = n := by omega
      rw [List.take_of_length_le (by omega)]
      go_wp2
      go_ret
      exact ⟨rfl, rfl⟩

end Go.Proofs.YtdpjnpjmokncdaaGreatDoor

/- sawyerref02: PutFrame. -/
namespace Go.Proofs.YtdpjnpjmokncdaaGreatDoor
open Go.RowKit

theorem putNumR_nil (x : Int) (N : Nat) (hN : clampN x = N) (w : World) :
    Calls Tryz.prog 140 #[.slice none 0 0, .int .i64 x] w fun e w' => ∃ A' c', e = .returned (.slice A' (numB N).length c') ∧
      w'.ownsRow w.heap.size 5 1 (.slice A' (numB N).length c') (numB N).length (by8 (numB N)) ∧ Below w.heap.size w w' := by
  refine (putNumR_any none 0 0 [] x w (Rd.nil _ _) (by omega)).mono ?_
  rw [hN, Nat.zero_add, List.nil_append]
  exact fun _ _ h => h
theorem rd_lit4 (w : World) (t : TypeId) (a b c d : UInt8) : Rd (w.alloc (.cells #[b8 a, b8 b, b8 c, b8 d] t)) (some ⟨w.heap.size, 0, none⟩) 4 (by8 [a, b, c, d]) := by
  refine ⟨rfl, fun _ => ⟨w.heap.size, 0, rfl, fun j u hu => ?_⟩⟩
  rw [Nat.zero_add, cell_of_row _ _ j _ t (0, 0) (heap_alloc_new w _)]
  match j, hu with
  | 0, hu => exact hu
  | 1, hu => exact hu
  | 2, hu => exact hu
  | 3, hu => exact hu

theorem rd_h4 (x : Int) (h0 : 0 ≤ x) (h1 : x < 4294967296) (W : World) (t : TypeId) : Rd (W.alloc (.cells #[.int .u8 (x / 16777216), .int .u8 (x / 65536 % 256), .int .u8 (x / 256 % 256), .int .u8 (x % 256)] t)) (some ⟨W.heap.size, 0, none⟩) 4 (by8 (high4 x)) := by
  have := rd_lit4 W t (lowB (x / 256 / 256 / 256)) (lowB (x / 256 / 256)) (lowB (x / 256)) (lowB x)
  rw [b8_lowB, b8_lowB, b8_lowB, b8_lowB, show x / 256 / 256 / 256 % 256 = x / 16777216 by omega, show x / 256 / 256 % 256 = x / 65536 % 256 by omega] at this
  exact this
set_option maxRecDepth 100000 in
set_option maxHeartbeats 1000000 in
theorem putFrameR_any (A B : Option Addr) (n c m d : Nat) (l k : List UInt8) (w : World) (h : Rd w A n (by8 l)) (g : Rd w B m (by8 k)) (hn : n + m ≤ 140737488351232) :
    Calls Tryz.prog 150 #[.slice A n c, .slice B m d] w fun e w' => ∃ A' c', e = .returned (.slice A' (l ++ frameB k).length c') ∧
      w'.ownsRow w.heap.size 5 1 (.slice A' (l ++ frameB k).length c') (l ++ frameB k).length (by8 (l ++ frameB k)) ∧ Below w.heap.size w w' := by
  have hll : l.length = n := by simpa using h.1
  have hkl : k.length = m := by simpa using g.1
  have hcl : clampN (m : Int) = m := clampN_of (by omega)
  have h9 := numB_len9 (n := m) (by omega)
  obtain ⟨hd, hhd⟩ : ∃ hd, numB m = hd := ⟨_, rfl⟩
  have hC := Lib.hid (putNumR_nil (m : Int) m hcl w)
  rw [hhd] at hC h9
  obtain ⟨P2, hP2⟩ : ∃ P2, hd ++ k = P2 := ⟨_, rfl⟩
  obtain ⟨x, hx⟩ : ∃ x, crcOf P2 = x := ⟨_, rfl⟩
  have hxb := crcOf_bd P2
  rw [hx] at hxb
  obtain ⟨hx0, hx1⟩ := hxb
  obtain ⟨R, hR⟩ : ∃ R, l ++ frameB k = R := ⟨_, rfl⟩
  have hRl : R.length = n + hd.length + 4 + m := by
    rw [← hR]; unfold frameB; rw [hkl, hhd]; simp [high4, hll, hkl]; omega
  have hRe : ((l ++ hd) ++ high4 x) ++ k = R := by
    rw [← hR]; unfold frameB; rw [hkl, hhd, hP2, hx]; simp
  obtain ⟨P1, hP1⟩ : ∃ P1, l ++ hd = P1 := ⟨_, rfl⟩
  obtain ⟨P3, hP3⟩ : ∃ P3, P1 ++ high4 x = P3 := ⟨_, rfl⟩
  rw [hP1, hP3] at hRe
  have HL1 : Hid (l.length + hd.length = P1.length ∧ P1.length ≤ 140737488351300) := by show _ ∧ _; rw [← hP1]; simp [hll]; omega
  have HL2 : Hid (hd.length + m = P2.length ∧ P2.length ≤ 140737488351300) := by show _ ∧ _; rw [← hP2]; simp [hkl]; omega
  have HL3 : Hid (P1.length + 4 = P3.length ∧ P3.length ≤ 140737488351400) := by show _ ∧ _; rw [← hP3, ← hP1]; simp [hll, high4]; omega
  have HL4 : Hid (P3.length + m = R.length ∧ R.length ≤ 140737488355328) := by show _ ∧ _; rw [← hRe]; simp [hkl]; rw [← hP3, ← hP1]; simp [hll, high4]; omega
  have HP1 := Lib.hid hP1
  have HP2 := Lib.hid hP2
  have HP3 := Lib.hid hP3
  rw [hR]
  have HLL := Lib.hid hll
  have HKL := Lib.hid hkl
  have HX := Lib.hid hx
  have HRE := Lib.hid hRe
  have HRL := Lib.hid hRl
  have HH := Lib.hid h
  have HG := Lib.hid g
  clear hll hkl hcl hhd hx hR hRl hRe h g hP1 hP2 hP3
  go_enter Tryz.func150, Tryz.ntmps150
  go_wp2_with fail
  refine hC.out.mono ?_
  rintro e w1 ⟨A1, c1, rfl, ho1, hb1⟩
  have HB1 := Lib.hid hb1
  have HO1 := Lib.hid ho1
  have hs1 := hb1.size
  have hr1 := ho1.lt
  clear hb1 ho1
  go_wp2_with (first
    | (at_builtin
       refine wpList_app8 bt _ rfl (.tmp 11) (.tmp 12) rfl w1.heap.size (.slice none 0 0) 0 [] rfl (World.ownsRow_nil _ _ _ _) A n c l rfl (HH.out.mod0 (Mod.of_below HB1.out)) l.length (by rw [HLL.out]; omega) l rfl (by rw [HLL.out]; omega) (by simp) ?_
       intro A2 c2 w2 hc2 ho2 hg2 hat2
       have M2 : Hid (Mod Non w1 w2) := Mod.of_grown (S := Non) hg2 (fun i hi => by simp [Value.ownBlock] at hi)
       have hr2 := ho2.lt
       have hs2 := M2.out.size
       have HO2 := Lib.hid ho2
       clear ho2 hg2 hat2)
    | (at_builtin
       refine wpList_app8 bt _ rfl (.tmp 14) (.tmp 15) rfl w1.heap.size (.slice A2 l.length c2) l.length l rfl HO2.out A1 hd.length c1 hd rfl ((Rd.of_own HO1.out).mod0 M2.out) P1.length HL1.out.1 P1 HP1.out (by have := HL1.out.2; omega) (by omega) ?_
       intro A3 c3 w3 hc3 ho3 hg3 hat3
       have M3 : Hid (Mod (fun g => (Value.slice A2 l.length c2).ownBlock = some g) w2 w3) := Mod.of_grown hg3 (fun _ h => h)
       have hs3 := M3.out.size
       have HO3 := Lib.hid ho3
       have HO13 := Lib.hid (own_mod (own_mod (S := Non) HO1.out M2.out (fun _ _ h => h)) M3.out (fun g hg h => by have := (hr1 g hg).2; have := (hr2 g h).1; omega))
       have MM3 := Lib.hid (((Mod.of_below (S := Non) HB1.out).trans0 M2.out).trans M3.out fun g hg => .inr (by have := (hr2 g hg).1; omega))
       clear ho3 hg3 hat3)
    | (at_builtin
       refine wpList_app8 bt _ rfl (.tmp 17) (.tmp 18) rfl w.heap.size (.slice A1 hd.length c1) hd.length hd rfl HO13.out B m d k rfl (HG.out.mod0 MM3.out) P2.length HL2.out.1 P2 HP2.out (by have := HL2.out.2; omega) (by omega) ?_
       intro A4 c4 w4 hc4 ho4 hg4 hat4
       have M4 : Hid (Mod (fun g => (Value.slice A1 hd.length c1).ownBlock = some g) w3 w4) := Mod.of_grown hg4 (fun _ h => h)
       have hs4 := M4.out.size
       have HO4 := Lib.hid (Rd.of_own ho4)
       have hr3 := HO3.out.lt
       have HO34 := Lib.hid (own_mod HO3.out M4.out (fun g hg h => by have := (hr1 g h).2; have := (hr3 g hg).1; omega))
       have MM4 := Lib.hid (MM3.out.trans M4.out fun g hg => .inr (hr1 g hg).1)
       clear ho4 hg4 hat4))
  refine (crcR_any A4 P2.length c4 P2 _ HO4.out (by have := HL2.out.2; omega)).mono ?_
  rw [HX.out]
  rintro e w5 ⟨rfl, rfl⟩
  have hr34 := HO34.out.lt
  go_wp2_with (first
    | (at_builtin
       refine wpList_app8 bt _ rfl (.tmp 21) (.tmp 33) rfl w1.heap.size (.slice A3 P1.length c3) P1.length P1 rfl (HO34.out.alloc _) _ 4 4 (high4 x) rfl (rd_h4 x hx0 hx1 _ _) P3.length HL3.out.1 P3 HP3.out (by have := HL3.out.2; omega) (by simp; omega) ?_
       intro A6 c6 w6 hc6 ho6 hg6 hat6
       have M6 := Lib.hid (((Mod.refl Non w4).alloc (.cells #[.int .u8 (x / 16777216), .int .u8 (x / 65536 % 256), .int .u8 (x / 256 % 256), .int .u8 (x % 256)] 5)).non.trans (Mod.of_grown (S := fun g => (Value.slice A3 P1.length c3).ownBlock = some g) hg6 fun _ h => h) (S := fun g => (Value.slice A3 P1.length c3).ownBlock = some g) fun _ h => .inl h)
       have MM6 := Lib.hid (MM4.out.trans M6.out fun g hg => .inr (by have := (hr34 g hg).1; omega))
       have hs6 := M6.out.size
       have HO6 := Lib.hid ho6
       have hr6 := ho6.lt
       clear ho6 hg6 hat6)
    | (at_builtin
       refine wpList_app8 bt _ rfl (.tmp 35) (.tmp 36) rfl w1.heap.size (.slice A6 P3.length c6) P3.length P3 rfl HO6.out B m d k rfl (HG.out.mod0 MM6.out) R.length HL4.out.1 R HRE.out (by have := HL4.out.2; omega) (by omega) ?_
       intro A7 c7 w7 hc7 ho7 hg7 hat7
       have MM7 := Lib.hid (MM6.out.trans (Mod.of_grown (S := fun g => (Value.slice A6 P3.length c6).ownBlock = some g) hg7 fun _ h => h) fun g hg => .inr (by have := (hr6 g hg).1; omega))
       have HO7 := Lib.hid ho7
       clear ho7 hg7 hat7))
  go_ret
  exact ⟨A7, c7, rfl, own_mono HO7.out hs1, MM7.out.below0⟩

end Go.Proofs.YtdpjnpjmokncdaaGreatDoor

/- sawyerref02: TakeNum. -/
namespace Go.Proofs.YtdpjnpjmokncdaaGreatDoor
open Go.RowKit

theorem numB_len_ge : ∀ (k n : Nat), 128 ^ k ≤ n → k + 1 ≤ (numB n).length
  | 0, n, _ => numB_pos n
  | k + 1, n, h => by
    have h1 : 128 ≤ n := by
      have : 0 < 128 ^ k := Nat.pow_pos (by omega)
      rw [Nat.pow_succ] at h
      omega
    rw [numB_more h1, List.length_cons]
    have := numB_len_ge k (n / 128) (by rw [Nat.pow_succ] at h; exact (Nat.le_div_iff_mul_le (by omega)).2 h)
    omega
theorem tn_nine (l : List UInt8) (x : Int) : tnGo l 9 x = (x, 0) := by
  cases l with
  | nil => rfl
  | cons a l => rw [tnGo, if_pos (.inl rfl)]
theorem pow27 (k : Nat) : (2 : Int) ^ (7 * k) = ((128 ^ k : Nat) : Int) := by
  rw [show (128 : Nat) = 2 ^ 7 from rfl, ← Nat.pow_mul]
  push_cast
  rfl
theorem pow_le8 {k : Nat} (h : k ≤ 8) : 128 ^ k ≤ 72057594037927936 := by
  have := Nat.pow_le_pow_right (n := 128) (by omega) h
  exact this
theorem tnStep_nat {k X : Nat} (c : UInt8) (hX : X < 128 ^ k) (hk : k ≤ 8) : tnStep k (X : Int) c = ((X + c.toNat % 128 * 128 ^ k : Nat) : Int) := by
  rw [tnStep_is k _ c (by omega) (by rw [pow27]; omega) (by omega), pow27]
  push_cast
  rfl

/-- what the reference's TakeNum has read of l. -/
structure TnM (l : List UInt8) (k X : Nat) (W : Int) : Prop where
  go : tnGo l 0 0 = tnGo (l.drop k) k (X : Int)
  lt : k ≤ 8 → X < 128 ^ k
  w : k ≤ 8 → W = ((128 ^ k : Nat) : Int)
/-- a round's facts. -/
theorem tn_round {l : List UInt8} {k X : Nat} {W : Int} {c : UInt8} (h : TnM l k X W) (hk : k ≤ 8) (hc : l[k]? = some c) :
    (k = 8 ∧ 63 < c.toNat % 128 → takeNum l = none) ∧
    (¬ (k = 8 ∧ 63 < c.toNat % 128) → c.toNat < 128 → (c.toNat = 0 ∧ 0 < k → takeNum l = none ∧ (numB (X + c.toNat % 128 * 128 ^ k)).length ≠ k + 1) ∧
      (¬ (c.toNat = 0 ∧ 0 < k) → takeNum l = some (X + c.toNat % 128 * 128 ^ k, l.drop (k + 1)) ∧ (numB (X + c.toNat % 128 * 128 ^ k)).length = k + 1)) ∧
    (¬ c.toNat < 128 → ∀ W' : Int, (k ≤ 7 → W' = W * 128) → TnM l (k + 1) (X + c.toNat % 128 * 128 ^ k) W') := by
  have hX := h.lt hk
  have hs := tnStep_nat c hX hk
  have hp := pow_le8 hk
  have hpos : 0 < 128 ^ k := Nat.pow_pos (by omega)
  have hD : l.drop k = c :: l.drop (k + 1) := by
    obtain ⟨hk', e⟩ := List.getElem?_eq_some_iff.1 hc
    rw [List.drop_eq_getElem_cons hk', e]
  have hgo := h.go
  rw [hD, tnGo] at hgo
  have hmul : c.toNat % 128 * 128 ^ k ≤ 127 * 128 ^ k := Nat.mul_le_mul_right _ (by omega)
  refine ⟨fun ⟨h8, h63⟩ => ?_, fun hn hlt => ⟨fun ⟨hz, h0⟩ => ⟨?_, ?_⟩, fun hz => ⟨?_, ?_⟩⟩, fun hge W' hW => ?_⟩
  · rw [if_neg (by omega)] at hgo
    split at hgo
    · refine takeNum_none_big hgo ?_
      rw [hs]
      have : 64 * 128 ^ k ≤ c.toNat % 128 * 128 ^ k := Nat.mul_le_mul_right _ (by omega)
      subst h8
      have e : (128 : Nat) ^ 8 = 72057594037927936 := rfl
      omega
    · rw [h8, tn_nine] at hgo
      exact takeNum_none_of hgo
  · rw [if_pos (.inr ⟨hz, h0⟩)] at hgo
    exact takeNum_none_of hgo
  · obtain ⟨j, rfl⟩ : ∃ j, k = j + 1 := ⟨k - 1, by omega⟩
    rw [hz]
    simp only [Nat.zero_mod, Nat.zero_mul, Nat.add_zero]
    have := numB_len j X hX
    omega
  · rw [if_neg (by omega), if_pos hlt, hs] at hgo
    have hb : X + c.toNat % 128 * 128 ^ k ≤ 4611686018427387903 := by
      by_cases h8 : k = 8
      · have h3 : c.toNat % 128 ≤ 63 := by omega
        have : c.toNat % 128 * 128 ^ k ≤ 63 * 128 ^ k := Nat.mul_le_mul_right _ h3
        subst h8
        have e : (128 : Nat) ^ 8 = 72057594037927936 := rfl
        omega
      · have := Nat.pow_le_pow_right (n := 128) (by omega) (show k ≤ 7 by omega)
        have e : (128 : Nat) ^ 7 = 562949953421312 := rfl
        omega
    have := takeNum_some_of hgo (by omega)
    rw [this, Int.toNat_natCast]
  · have h1 : (numB (X + c.toNat % 128 * 128 ^ k)).length ≤ k + 1 := numB_len k _ (by rw [Nat.pow_succ]; omega)
    by_cases h0 : k = 0
    · subst h0
      have := numB_pos (X + c.toNat % 128 * 128 ^ 0)
      omega
    · have h2 := numB_len_ge k (X + c.toNat % 128 * 128 ^ k) (by
        have : 1 * 128 ^ k ≤ c.toNat % 128 * 128 ^ k := Nat.mul_le_mul_right _ (by omega)
        omega)
      omega
  · rw [if_neg (by omega), if_neg hge, hs] at hgo
    refine ⟨hgo.trans rfl, fun h8 => by rw [Nat.pow_succ]; omega, fun h8 => ?_⟩
    rw [hW (by omega), h.w hk, Nat.pow_succ]
    push_cast
    rfl
/-- what the reference's TakeNum answers: as the program's, but for blocks of its own. -/
def TnqPost (l : List UInt8) (w : World) (e : Ending) (w' : World) : Prop :=
  match takeNum l with
  | none => e = .returned (.tuple #[.int .i64 0, .slice none 0 0, .int .i64 2]) ∧ Below w.heap.size w w'
  | some (m, rest) => ∃ A' c', e = .returned (.tuple #[.int .i64 (m : Nat), .slice A' rest.length c', .int .i64 0]) ∧ w'.ownsRow w.heap.size 5 1 (.slice A' rest.length c') rest.length (by8 rest) ∧ Below w.heap.size w w'
theorem tnq_none {l : List UInt8} {w w' : World} (h : takeNum l = none) (hb : Below w.heap.size w w' := by exact Below.refl _ _) : TnqPost l w (.returned (.tuple #[.int .i64 0, .slice none 0 0, .int .i64 2])) w' := by unfold TnqPost; rw [h]; exact ⟨rfl, hb⟩
theorem tnq_some {l rest : List UInt8} {w w' : World} {m : Nat} {A' : Option Addr} {n c' : Nat} (h : takeNum l = some (m, rest)) (hn : rest.length = n) (ho : w'.ownsRow w.heap.size 5 1 (.slice A' n c') n (by8 rest)) (hb : Below w.heap.size w w') :
    TnqPost l w (.returned (.tuple #[.int .i64 (m : Int), .slice A' n c', .int .i64 0])) w' := by
  subst hn
  unfold TnqPost; rw [h]; exact ⟨A', c', rfl, ho, hb⟩
theorem tnq_some' {l rest : List UInt8} {w w' : World} {m : Nat} {v : Int} {A' : Option Addr} {n c' : Nat} (hv : v = (m : Int)) (h : takeNum l = some (m, rest)) (hn : rest.length = n) (ho : w'.ownsRow w.heap.size 5 1 (.slice A' n c') n (by8 rest)) (hb : Below w.heap.size w w') :
    TnqPost l w (.returned (.tuple #[.int .i64 v, .slice A' n c', .int .i64 0])) w' := by
  rw [hv]; exact tnq_some h hn ho hb
theorem tn_end {l : List UInt8} {k X : Nat} {W : Int} (h : TnM l k X W) (he : l.length ≤ k ∨ k = 9) : takeNum l = none := by
  have hgo := h.go
  rcases he with he | rfl
  · rw [List.drop_eq_nil_of_le he] at hgo
    exact takeNum_none_of hgo
  · rw [tn_nine] at hgo
    exact takeNum_none_of hgo

set_option maxRecDepth 100000 in
set_option maxHeartbeats 1000000 in
theorem takeNumR_any (A : Option Addr) (n c : Nat) (l : List UInt8) (w : World) (h : Rd w A n (by8 l)) (hnc : n ≤ c) (hn : n ≤ 140737488355328) (hcm : c ≤ 9223372036854775807) :
    Calls Tryz.prog 107 #[.slice A n c] w (TnqPost l w) := by
  have hl : l.length = n := by simpa using h.1
  have HL := Lib.hid hl
  have HH := Lib.hid h
  clear hl h
  go_enter Tryz.func107, Tryz.ntmps107
  go_wp2_with fail
  go_loop [5, 6, 7] (fun v5 v6 i => ∃ (k X : Nat) (W : Int), k ≤ n ∧ k ≤ 9 ∧ i = .int .i64 k ∧ v5 = .int .i64 (X : Int) ∧ v6 = .int .i64 W ∧ Hid (TnM l k X W)) (fun _ _ i => n - (intOf i).toNat)
  case atStart => exact ⟨0, 0, 1, Nat.zero_le _, by omega, rfl, rfl, rfl, ⟨rfl, fun _ => by simp, fun _ => by simp⟩⟩
  case round =>
    obtain ⟨k, X, W, hk, hk9, rfl, rfl, rfl, HT⟩ := hrel
    by_cases hlt : k < n ∧ k < 9
    · obtain ⟨hlt, h9⟩ := hlt
      obtain ⟨b, o, cb, rfl, hcb, hc⟩ := HH.out.byte hlt
      obtain ⟨r1, r2, r3⟩ := tn_round HT.out (by omega) hcb
      have hX := HT.out.lt (by omega)
      have hWv := HT.out.w (by omega)
      have hp8 := pow_le8 (k := k) (by omega)
      have hppos : 0 < 128 ^ k := Nat.pow_pos (by omega)
      have hb := cb.toNat_lt
      have hmul : cb.toNat % 128 * 128 ^ k ≤ 127 * 128 ^ k := Nat.mul_le_mul_right _ (by omega)
      obtain ⟨P, hP⟩ : ∃ P : Nat, cb.toNat % 128 * 128 ^ k = P := ⟨_, rfl⟩
      obtain ⟨N, hN⟩ : ∃ N : Nat, X + P = N := ⟨_, rfl⟩
      rw [hP] at r2 r3 hmul
      rw [hN] at r2 r3
      have hPW : ((cb.toNat : Int) % 128) * W = (P : Int) := by rw [hWv, ← hP]; push_cast; rfl
      have hWb : 0 ≤ W ∧ W ≤ 72057594037927936 := by rw [hWv]; omega
      obtain ⟨hW0, hW1⟩ := hWb
      have hPb : P ≤ 127 * 72057594037927936 := by omega
      have hXb : X ≤ 72057594037927936 := by omega
      have HPT : Hid (¬ (k = 8 ∧ 63 < cb.toNat % 128) → X + P ≤ 4611686018427387903) := by
        intro hA
        rw [← hP]
        by_cases h8 : k = 8
        · have h3 : cb.toNat % 128 ≤ 63 := by omega
          have h4 : cb.toNat % 128 * 128 ^ k ≤ 63 * 128 ^ k := Nat.mul_le_mul_right _ h3
          have e : (128 : Nat) ^ k = 72057594037927936 := by rw [h8]
          omega
        · have h4 := Nat.pow_le_pow_right (n := 128) (by omega) (show k ≤ 7 by omega)
          have e : (128 : Nat) ^ 7 = 562949953421312 := rfl
          have h5 : cb.toNat % 128 * 128 ^ k ≤ 127 * 128 ^ k := Nat.mul_le_mul_right _ (by omega)
          omega
      have HN := Lib.hid hN
      have HNI : Hid ((X : Int) + (P : Int) = (N : Int)) := by show _ = _; omega
      have R1 := Lib.hid r1
      have R2 := Lib.hid r2
      have R3 := Lib.hid r3
      have HCB := Lib.hid hcb
      clear r1 r2 r3 hX hWv hp8 hppos hmul hP hcb hN
      have i0 : (0 : Int) ≤ (k : Int) := by omega
      have i1 : (k : Int) < (n : Int) := by omega
      by_cases hA : k = 8 ∧ 63 < cb.toNat % 128
      · obtain ⟨h8, h63⟩ := hA
        have HV : Hid (takeNum l = none) := R1.out ⟨h8, h63⟩
        have e8 : ((k : Int) == 8) = true := by simp [h8]
        have e63 : decide (63 < (cb.toNat : Int) % 128) = true := decide_eq_true (by omega)
        clear h8 hPW
        go_wp2_with fail
        go_ret3
        exact tnq_none HV.out
      · have hgu : ((k : Int) == 8) = false ∨ ((k : Int) == 8) = true ∧ decide (63 < (cb.toNat : Int) % 128) = false := by
          by_cases h8 : k = 8
          · exact .inr ⟨by simp [h8], decide_eq_false (by omega)⟩
          · exact .inl (by simp; omega)
        have hXP : X + P ≤ 4611686018427387903 := HPT.out hA
        have HCN : Hid (clampN ((X : Int) + (P : Int)) = N) := by show _ = _; rw [HNI.out]; exact clampN_of (by have := HN.out; omega)
        have HA := Lib.hid hA
        clear hA
        by_cases hsm : cb.toNat < 128
        · by_cases hz : cb.toNat = 0 ∧ 0 < k
          · obtain ⟨v1, v2⟩ := (R2.out HA.out hsm).1 hz
            have HV := Lib.hid v1
            have e1 : (((numB N).length : Int) == (k : Int) + 1) = false := by simp; omega
            clear hz v1 v2
            rcases hgu with e8 | ⟨e8, e63⟩
            all_goals
              go_wp2_with fail
              (with_reducible refine (putNumR_nil ((X : Int) + (P : Int)) N HCN.out _).mono ?_)
              rintro e w1 ⟨A1, c1, rfl, ho1, hb1⟩
              have HB1 := Lib.hid hb1
              clear hb1 ho1
              go_wp2_with fail
              go_ret3
              exact tnq_none HV.out HB1.out
          · obtain ⟨v1, v2⟩ := (R2.out HA.out hsm).2 hz
            have HV := Lib.hid v1
            have HNL := Lib.hid v2
            have hcut := HH.out.cut (k := k + 1) (cap := c) (by omega) hnc
            rw [← by8_drop] at hcut
            have HLN : Hid ((l.drop (k + 1)).length = n - (k + 1)) := by show _ = _; rw [List.length_drop, HL.out]
            clear hz v1 v2
            by_cases hcap : c = k + 1
            · have hnil : l.drop (k + 1) = [] := List.eq_nil_of_length_eq_zero (by rw [HLN.out]; omega)
              have HV0 : Hid (takeNum l = some (N, [])) := by have := HV.out; rwa [hnil] at this
              subst hcap
              clear hcut hnil
              rcases hgu with e8 | ⟨e8, e63⟩
              all_goals
                go_wp2_with fail
                (with_reducible refine (putNumR_nil ((X : Int) + (P : Int)) N HCN.out _).mono ?_)
                rintro e w1 ⟨A1, c1, rfl, ho1, hb1⟩
                have HB1 := Lib.hid hb1
                have hs1 := hb1.size
                rw [HNL.out]
                clear hb1 ho1
                go_wp2_with (at_builtin
                             refine wpList_app8 bt _ rfl (.tmp 48) (.tmp 52) rfl w1.heap.size (.slice (some ⟨w1.heap.size, 0, none⟩) 0 0) 0 [] rfl (own_empty w1 5 1) _ 0 0 [] rfl (Rd.nil _ _) 0 (by omega) [] rfl (by omega) (by simp) ?_
                             intro pA pc pw phc pown pg pat)
                have hbw : Below w.heap.size w pw := HB1.out.trans (((((Mod.refl Non w1).alloc _).trans (Mod.of_grown (S := fun g => (Value.slice (some ⟨w1.heap.size, 0, none⟩) 0 0).ownBlock = some g) pg fun _ h => h) fun g hg => .inr (by simp [Value.ownBlock] at hg; omega))).below0.mono hs1)
                go_ret3
                exact tnq_some' HNI.out HV0.out rfl (own_mono pown hs1) hbw
            · rw [if_neg hcap] at hcut
              have HCUT : Hid (Rd w (some ⟨b, o + (k + 1), none⟩) (n - (k + 1)) (by8 (l.drop (k + 1)))) := hcut
              clear hcut
              rcases hgu with e8 | ⟨e8, e63⟩
              all_goals
                go_wp2_with fail
                (with_reducible refine (putNumR_nil ((X : Int) + (P : Int)) N HCN.out _).mono ?_)
                rintro e w1 ⟨A1, c1, rfl, ho1, hb1⟩
                have HB1 := Lib.hid hb1
                have hs1 := hb1.size
                rw [HNL.out]
                clear hb1 ho1
                go_wp2_with (at_builtin
                             refine wpList_app8 bt _ rfl (.tmp 48) (.tmp 52) rfl w1.heap.size (.slice (some ⟨w1.heap.size, 0, none⟩) 0 0) 0 [] rfl (own_empty w1 5 1) _ (n - (k + 1)) _ (l.drop (k + 1)) rfl ((HCUT.out.mod0 (Mod.of_below HB1.out)).alloc _) (n - (k + 1)) (by omega) (l.drop (k + 1)) rfl (by omega) (by simp) ?_
                             intro pA pc pw phc pown pg pat)
                have hbw : Below w.heap.size w pw := HB1.out.trans (((((Mod.refl Non w1).alloc _).trans (Mod.of_grown (S := fun g => (Value.slice (some ⟨w1.heap.size, 0, none⟩) 0 0).ownBlock = some g) pg fun _ h => h) fun g hg => .inr (by simp [Value.ownBlock] at hg; omega))).below0.mono hs1)
                go_ret3
                exact tnq_some' HNI.out HV.out HLN.out (own_mono pown hs1) hbw
        · have HR3 := Lib.hid (R3.out hsm)
          by_cases h7 : k ≤ 7
          · have hW7 : W * 128 ≤ 72057594037927936 := by
              have hw := HT.out.w (by omega)
              have := Nat.pow_le_pow_right (n := 128) (by omega) h7
              have e : (128 : Nat) ^ 7 = 562949953421312 := rfl
              rw [hw]
              omega
            have HM := Lib.hid (HR3.out (W * 128) fun _ => rfl)
            rcases hgu with e8 | ⟨e8, e63⟩
            all_goals
              go_wp2_with fail
              go_round
              case rel => exact ⟨k + 1, N, W * 128, by omega, by omega, by go_num, by rw [← HN.out]; push_cast; rfl, rfl, HM.out⟩
              case measure => simp [intOf]; omega
          · have HM := Lib.hid fun W' : Int => HR3.out W' fun h => absurd h h7
            rcases hgu with e8 | ⟨e8, e63⟩
            all_goals
              go_wp2_with fail
              go_round
              case rel => exact ⟨k + 1, N, _, by omega, by omega, by go_num, by rw [← HN.out]; push_cast; rfl, rfl, HM.out _⟩
              case measure => simp [intOf]; omega
    · have HV : Hid (takeNum l = none) := tn_end HT.out (by rw [HL.out]; omega)
      rcases (show k = n ∨ k < n ∧ k = 9 by omega) with he | ⟨he, he9⟩
      all_goals
        go_wp2_with fail
        go_ret3
        exact tnq_none HV.out

end Go.Proofs.YtdpjnpjmokncdaaGreatDoor

/- A number's bytes are the only ones; a frame's four bytes. Plain. -/
namespace Go.Proofs.YtdpjnpjmokncdaaGreatDoor
open Go.RowKit

def valB : List UInt8 → Nat
  | [] => 0
  | c :: r => c.toNat % 128 + 128 * valB r
/-- bytes as TakeNum reads them: all but the last go on, the last one ends, and is not 0 behind others. -/
inductive Grp : Bool → List UInt8 → Prop
  | one (b : Bool) (c : UInt8) (h : c.toNat < 128) (h0 : c.toNat = 0 → b = false) : Grp b [c]
  | more (b : Bool) (c : UInt8) (r : List UInt8) (h : ¬ c.toNat < 128) (hr : Grp true r) : Grp b (c :: r)
theorem lowB_of {c : UInt8} (h : c.toNat < 128) : lowB (((c.toNat % 128 + 128 * 0 : Nat)) : Int) = c := by
  refine UInt8.toNat_inj.1 ?_
  have := lowB_nat ((c.toNat % 128 + 128 * 0 : Nat) : Int)
  omega
theorem grp_pos {b : Bool} {bs : List UInt8} (h : Grp b bs) : b = true → 0 < valB bs := by
  induction h with
  | one b c h h0 =>
    intro hb
    simp only [valB]
    have : c.toNat ≠ 0 := fun e => by rw [h0 e] at hb; cases hb
    omega
  | more b c r h hr ih =>
    intro _
    have := ih rfl
    simp only [valB]
    omega
theorem grp_num {b : Bool} {bs : List UInt8} (h : Grp b bs) : numB (valB bs) = bs := by
  induction h with
  | one b c h h0 =>
    have e : valB [c] = c.toNat % 128 + 128 * 0 := rfl
    rw [e, numB_last (by omega), lowB_of h]
  | more b c r h hr ih =>
    have hp := grp_pos hr rfl
    have e : valB (c :: r) = c.toNat % 128 + 128 * valB r := rfl
    rw [e, numB_more (by omega), show (c.toNat % 128 + 128 * valB r) / 128 = valB r by omega, ih]
    congr 1
    refine UInt8.toNat_inj.1 ?_
    obtain ⟨h1, h2⟩ := moreB_nat (c.toNat % 128 + 128 * valB r)
    have h3 := (moreB (c.toNat % 128 + 128 * valB r)).toNat_lt
    have h4 := c.toNat_lt
    omega
theorem tn_grp : ∀ (r : List UInt8) (k X : Nat) (y : Int) (q : Nat), k ≤ 9 → (k ≤ 8 → X < 128 ^ k) → tnGo r k (X : Int) = (y, q) → q ≠ 0 →
    ∃ bs tail, r = bs ++ tail ∧ q = k + bs.length ∧ y = ((X + valB bs * 128 ^ k : Nat) : Int) ∧ Grp (decide (0 < k)) bs
  | [], k, X, y, q, _, _, h, hq => by
    rw [tnGo] at h
    cases h
    exact absurd rfl hq
  | c :: r, k, X, y, q, hk, hX, h, hq => by
    rw [tnGo] at h
    split at h
    · cases h; exact absurd rfl hq
    · rename_i hn
      have hk8 : k ≤ 8 := by omega
      have hs := tnStep_nat c (hX hk8) hk8
      split at h
      · rename_i hlt
        rw [hs] at h
        cases h
        refine ⟨[c], r, rfl, rfl, ?_, .one _ c hlt fun h0 => decide_eq_false fun h1 => hn (.inr ⟨h0, h1⟩)⟩
        simp [valB]
      · rename_i hge
        rw [hs] at h
        have hmul : c.toNat % 128 * 128 ^ k ≤ 127 * 128 ^ k := Nat.mul_le_mul_right _ (by omega)
        have hXk := hX hk8
        obtain ⟨bs, tail, rfl, hql, hy, hg⟩ := tn_grp r (k + 1) (X + c.toNat % 128 * 128 ^ k) y q (by omega) (fun h8 => by rw [Nat.pow_succ]; omega) h hq
        refine ⟨c :: bs, tail, rfl, by rw [hql, List.length_cons]; omega, ?_, .more _ c bs hge (by simpa using hg)⟩
        rw [hy, valB, Nat.pow_succ, Nat.add_mul, Nat.add_assoc]
        congr 2
        rw [Nat.mul_comm (128 ^ k) 128, ← Nat.mul_assoc, Nat.mul_comm (valB bs) 128]
theorem takeNum_canon {l rest : List UInt8} {m : Nat} (h : takeNum l = some (m, rest)) : l = numB m ++ rest := by
  unfold takeNum at h
  split at h
  · cases h
  · rename_i hn
    simp only [Option.some.injEq, Prod.mk.injEq] at h
    obtain ⟨rfl, rfl⟩ := h
    obtain ⟨⟨y, q⟩, hp⟩ : ∃ p, tnGo l 0 0 = p := ⟨_, rfl⟩
    rw [hp] at hn ⊢
    simp only at hn ⊢
    obtain ⟨bs, tail, rfl, hq, hy, hg⟩ := tn_grp l 0 0 y q (by omega) (fun _ => by simp) hp (fun e => hn (.inl e))
    have e : y.toNat = valB bs := by rw [hy]; simp
    rw [e, grp_num hg, hq]
    simp

theorem high4_num {t : List UInt8} (h : t.length = 4) : high4 (numFold t) = t := by
  match t, h with
  | [a, b, c, d], _ =>
    have ha := a.toNat_lt
    have hb := b.toNat_lt
    have hc := c.toNat_lt
    have hd := d.toNat_lt
    have e : numFold [a, b, c, d] = (((a.toNat * 256 + b.toNat) * 256 + c.toNat) * 256 + d.toNat : Nat) := by
      show numStep (numStep (numStep (numStep 0 a) b) c) d = _
      rw [numStep_is 0 a (by omega) (by omega), numStep_is _ b (by omega) (by omega), numStep_is _ c (by omega) (by omega), numStep_is _ d (by omega) (by omega)]
      omega
    rw [e]
    unfold high4
    have key : ∀ (v : Int) (x : UInt8), v % 256 = (x.toNat : Int) → lowB v = x := fun v x hv => UInt8.toNat_inj.1 (by have := lowB_nat v; omega)
    rw [key _ a (by omega), key _ b (by omega), key _ c (by omega), key _ d (by omega)]

/-- a frame is taken just where it is the frame of its body. -/
theorem takeFrame_own {l rest : List UInt8} {m : Nat} {most : Int} (h : takeNum l = some (m, rest)) (h1 : (m : Int) ≤ most) (h2 : m + 4 ≤ rest.length) (hm : m ≤ 4611686018427387903) :
    ((frameB ((rest.drop 4).take m) = l.take (frameB ((rest.drop 4).take m)).length) → takeFrame l most = some ((rest.drop 4).take m, rest.drop (4 + m))) ∧
    (¬ (frameB ((rest.drop 4).take m) = l.take (frameB ((rest.drop 4).take m)).length) → takeFrame l most = none) := by
  have hl := takeNum_canon h
  have hbl : ((rest.drop 4).take m).length = m := by rw [List.length_take, List.length_drop]; omega
  obtain ⟨body, hb⟩ : ∃ body, (rest.drop 4).take m = body := ⟨_, rfl⟩
  have hpre : l.take (l.length - rest.length) = numB m := by
    rw [hl, List.length_append, Nat.add_sub_cancel]
    simp
  have hrest : rest = rest.take 4 ++ (body ++ rest.drop (4 + m)) := by
    rw [← hb]
    conv => lhs; rw [← List.take_append_drop 4 rest, ← List.take_append_drop m (rest.drop 4)]
    rw [List.drop_drop]
  have hft : takeFrame l most = if numFold (rest.take 4) = crcOf (numB m ++ body) then some (body, rest.drop (4 + m)) else none := by
    unfold takeFrame
    rw [h]
    simp only
    rw [if_neg (by omega), hpre, hb]
  rw [hb] at hbl ⊢
  have ht4 : (rest.take 4).length = 4 := by rw [List.length_take]; omega
  have hfl : frameB body = numB m ++ (high4 (crcOf (numB m ++ body)) ++ body) := by unfold frameB; rw [hbl]
  have hll : (frameB body).length = (numB m).length + (4 + m) := by rw [hfl]; simp [high4, hbl]; omega
  have htk : l.take (frameB body).length = numB m ++ (rest.take 4 ++ body) := by
    rw [hll, hl, List.take_append, List.take_of_length_le (by omega), Nat.add_sub_cancel_left]
    congr 1
    conv => lhs; rw [hrest]
    rw [← List.append_assoc, List.take_append_of_le_length (by simp [ht4, hbl]), List.take_of_length_le (by simp [ht4, hbl])]
  have key : frameB body = l.take (frameB body).length ↔ numFold (rest.take 4) = crcOf (numB m ++ body) := by
    rw [htk, hfl]
    constructor
    · intro e
      have e1 := List.append_cancel_left e
      have e2 := List.append_cancel_right e1
      rw [← e2]
      obtain ⟨a, b⟩ := crcOf_bd (numB m ++ body)
      exact numFold_high4 a b
    · intro e
      rw [← e, high4_num ht4]
  rw [hft]
  exact ⟨fun e => if_pos (key.1 e), fun e => if_neg fun e2 => e (key.2 e2)⟩

end Go.Proofs.YtdpjnpjmokncdaaGreatDoor

/- sawyerref02: TakeFrame. -/
namespace Go.Proofs.YtdpjnpjmokncdaaGreatDoor
open Go.RowKit

/-- what the reference's TakeFrame answers. -/
def TfqPost (l : List UInt8) (most : Int) (w : World) (e : Ending) (w' : World) : Prop :=
  match takeFrame l most with
  | none => e = .returned (.tuple #[.slice none 0 0, .slice none 0 0, .int .i64 2]) ∧ Below w.heap.size w w'
  | some (body, rest) => ∃ A' c' B' d', e = .returned (.tuple #[.slice A' body.length c', .slice B' rest.length d', .int .i64 0]) ∧ Rd w' A' body.length (by8 body) ∧ (∀ b, blkOf A' = some b → w.heap.size ≤ b) ∧ body.length ≤ c' ∧ c' ≤ 9223372036854775807 ∧
      Rd w' B' rest.length (by8 rest) ∧ (∀ b, blkOf B' = some b → w.heap.size ≤ b) ∧ rest.length ≤ d' ∧ d' ≤ 9223372036854775807 ∧ Below w.heap.size w w'
theorem tfq_none {l : List UInt8} {most : Int} {w w' : World} (h : takeFrame l most = none) (hb : Below w.heap.size w w') : TfqPost l most w (.returned (.tuple #[.slice none 0 0, .slice none 0 0, .int .i64 2])) w' := by
  unfold TfqPost; rw [h]; exact ⟨rfl, hb⟩
theorem tfq_some {l body rest : List UInt8} {most : Int} {w w' : World} {A' B' : Option Addr} {n c' r d' : Nat} (h : takeFrame l most = some (body, rest)) (hn : body.length = n) (hr : rest.length = r)
    (ho : Rd w' A' n (by8 body)) (hoo : ∀ b, blkOf A' = some b → w.heap.size ≤ b) (hc : n ≤ c') (hc2 : c' ≤ 9223372036854775807) (hB : Rd w' B' r (by8 rest)) (hbb : ∀ b, blkOf B' = some b → w.heap.size ≤ b) (hd : r ≤ d') (hd2 : d' ≤ 9223372036854775807) (hb : Below w.heap.size w w') :
    TfqPost l most w (.returned (.tuple #[.slice A' n c', .slice B' r d', .int .i64 0])) w' := by
  subst hn
  subst hr
  unfold TfqPost; rw [h]; exact ⟨A', c', B', d', rfl, ho, hoo, hc, hc2, hB, hbb, hd, hd2, hb⟩
theorem putFrameR_nil (B : Option Addr) (m d : Nat) (k F : List UInt8) (hF : frameB k = F) (w : World) (g : Rd w B m (by8 k)) (hn : m ≤ 140737488351232) :
    Calls Tryz.prog 150 #[.slice none 0 0, .slice B m d] w fun e w' => ∃ A' c', e = .returned (.slice A' F.length c') ∧
      w'.ownsRow w.heap.size 5 1 (.slice A' F.length c') F.length (by8 F) ∧ Below w.heap.size w w' := by
  refine (putFrameR_any none B 0 0 m d [] k w (Rd.nil _ _) g (by omega)).mono ?_
  rw [List.nil_append, hF]
  exact fun _ _ h => h
theorem below_drewN' {B : Nat} {a b : World} (h : Below B a b) (q : Nat) : Below B a (b.drewN q) := ⟨h.os, h.tape, h.output, h.size, h.block⟩

set_option maxRecDepth 100000 in
set_option maxHeartbeats 2000000 in
theorem takeFrameR_any (A : Option Addr) (n c : Nat) (l : List UInt8) (most : Int) (w : World) (h : Rd w A n (by8 l)) (hnc : n ≤ c) (hn : n ≤ 140737488351232) (hcm : c ≤ 9223372036854775807) :
    Calls Tryz.prog 139 #[.slice A n c, .int .i64 most] w (TfqPost l most w) := by
  have hl : l.length = n := by simpa using h.1
  have HL := Lib.hid hl
  have HH := Lib.hid h
  clear hl
  have hct := takeNumR_any A n c l w h hnc (by omega) hcm
  clear h
  rcases htn : takeNum l with _ | ⟨m, rest⟩
  · have HF : Hid (takeFrame l most = none) := by show takeFrame l most = none; unfold takeFrame; rw [htn]
    have hct' : Calls Tryz.prog 107 #[.slice A n c] w fun e w' => e = .returned (.tuple #[.int .i64 0, .slice none 0 0, .int .i64 2]) ∧ Below w.heap.size w w' := hct.mono fun e w' hp => by unfold TnqPost at hp; rw [htn] at hp; exact hp
    have HC := Lib.hid hct'
    clear hct hct' htn
    go_enter Tryz.func139, Tryz.ntmps139
    go_wp2_with fail
    refine HC.out.mono ?_
    rintro e w1 ⟨rfl, hb1⟩
    go_wp2_with fail
    go_ret3
    exact tfq_none HF.out hb1
  · have hct' : Calls Tryz.prog 107 #[.slice A n c] w fun e w' => ∃ A' c', e = .returned (.tuple #[.int .i64 (m : Nat), .slice A' rest.length c', .int .i64 0]) ∧ w'.ownsRow w.heap.size 5 1 (.slice A' rest.length c') rest.length (by8 rest) ∧ Below w.heap.size w w' := hct.mono fun e w' hp => by unfold TnqPost at hp; rw [htn] at hp; exact hp
    have HC := Lib.hid hct'
    obtain ⟨hrl, hmm⟩ := takeNum_spec htn
    rw [HL.out] at hrl
    by_cases hbig : most < (m : Int) ∨ (rest.length : Int) - 4 < (m : Int)
    · have HF : Hid (takeFrame l most = none) := by show takeFrame l most = none; unfold takeFrame; rw [htn]; simp only; rw [if_pos hbig]
      clear htn hct hct'
      obtain ⟨r, hr⟩ : ∃ r, rest.length = r := ⟨_, rfl⟩
      have HR := Lib.hid hr
      rw [hr] at hrl HC hbig
      clear hr
      by_cases hb1 : most < (m : Int)
      · clear hbig
        go_enter Tryz.func139, Tryz.ntmps139
        go_wp2_with fail
        refine HC.out.mono ?_
        rintro e w1 ⟨A1, c1, rfl, ho1, hb1⟩
        go_wp2_with fail
        go_ret3
        exact tfq_none HF.out hb1
      · have hb2 : (r : Int) - 4 < (m : Int) := by omega
        have hb3 : (m : Int) ≤ most := by omega
        clear hbig hb1
        go_enter Tryz.func139, Tryz.ntmps139
        go_wp2_with fail
        refine HC.out.mono ?_
        rintro e w1 ⟨A1, c1, rfl, ho1, hb1⟩
        go_wp2_with fail
        go_ret3
        exact tfq_none HF.out hb1
    · have hb1' : (m : Int) ≤ most := by omega
      have hb2' : (m : Int) + 4 ≤ (rest.length : Int) := by omega
      obtain ⟨t1, t2⟩ := takeFrame_own htn hb1' (by omega) hmm
      clear hbig hct hct'
      obtain ⟨r, hr⟩ : ∃ r, rest.length = r := ⟨_, rfl⟩
      obtain ⟨body, hbody⟩ : ∃ body, (rest.drop 4).take m = body := ⟨_, rfl⟩
      obtain ⟨tl, htl⟩ : ∃ tl, rest.drop (4 + m) = tl := ⟨_, rfl⟩
      obtain ⟨F, hF⟩ : ∃ F, frameB body = F := ⟨_, rfl⟩
      obtain ⟨G, hG⟩ : ∃ G, l.take F.length = G := ⟨_, rfl⟩
      have hbl : body.length = m := by rw [← hbody, List.length_take, List.length_drop]; omega
      have htll : tl.length = r - (4 + m) := by rw [← htl, List.length_drop, hr]
      have hFl : F.length ≤ n := by
        have hc := takeNum_canon htn
        have hlen := congrArg List.length hc
        rw [HL.out, List.length_append] at hlen
        rw [← hF]
        unfold frameB
        rw [hbl]
        simp [high4, hbl]
        omega
      rw [hbody, htl, hF] at t1
      rw [hbody, hF] at t2
      rw [hG] at t1 t2
      rw [hr] at hrl hb2' HC
      have HR := Lib.hid hr
      have HBD := Lib.hid hbody
      have HTL := Lib.hid htl
      have HFF := Lib.hid hF
      have HGG := Lib.hid hG
      have HBL := Lib.hid hbl
      have HTLL := Lib.hid htll
      have T1 := Lib.hid t1
      have T2 := Lib.hid t2
      clear hr hbody htl hF hG hbl htll t1 t2 htn
      go_enter Tryz.func139, Tryz.ntmps139
      go_wp2_with fail
      refine HC.out.mono ?_
      rintro e w1 ⟨A1, c1, rfl, ho1, hb1⟩
      have hcc := own_slice ho1
      have hc1 : r ≤ c1 ∧ c1 ≤ maxLen := by
        obtain ⟨A9, c9, e9, h1, h2⟩ := hcc
        injection e9 with _ _ e
        subst e
        exact ⟨h1, h2⟩
      clear hcc
      obtain ⟨hc1, hc2⟩ := hc1
      unfold maxLen at hc2
      have HB1 := Lib.hid hb1
      have hsz1 := hb1.size
      clear hb1
      have hr1 := Rd.of_own ho1
      obtain ⟨b1, o1, rfl, hcells⟩ := hr1.2 (by omega)
      have hbb : w.heap.size ≤ b1 := own_base ho1 b1 rfl
      clear hcells ho1
      have hc4 := (hr1.cut (k := 4) (cap := c1) (by omega) hc1).take (k := m) (by omega)
      have hc5 := hr1.cut (k := 4 + m) (cap := c1) (by omega) hc1
      rw [← by8_drop, HTL.out] at hc5
      rw [← by8_drop, ← by8_take, HBD.out] at hc4
      have q2 : IntKind.i64.wrap (4 + (m : Int)) = 4 + (m : Int) := IntWalk.i64_in _ (by omega)
      have q5 : (4 + (m : Int)).toNat = 4 + m := by omega
      have q7 : 4 + (m : Int) ≤ (c1 : Int) := by omega
      have q8 : 4 + (m : Int) ≤ (r : Int) := by omega
      have q9 : 0 ≤ 4 + (m : Int) := by omega
      have three : (c1 = 4 ∧ r ≤ 4 ∧ m = 0) ∨ (¬ c1 = 4 ∧ c1 = 4 + m ∧ r ≤ 4 + m) ∨ (¬ c1 = 4 ∧ ¬ c1 = 4 + m) := by omega
      rcases three with ⟨rfl, hr4', rfl⟩ | ⟨e1, rfl, hr4'⟩ | ⟨e1, e2⟩
      · have HBR : Hid (Rd w1 (some ⟨b1, o1, none⟩) 0 (by8 body)) := hc4
        have HTR : Hid (Rd w1 (some ⟨b1, o1, none⟩) 0 (by8 tl)) := by
          have h0 : Rd w1 (some ⟨b1, o1, none⟩) (r - 4) (by8 tl) := hc5
          show Rd _ _ _ _
          rwa [show r - 4 = 0 from by omega] at h0
        have HTLL0 : Hid (tl.length = 0) := by have h0 : tl.length = r - 4 := HTLL.out; show _ = _; omega
        have hw4 : IntKind.i64.wrap 4 = 4 := by decide
        have hrr : (4 : Int) ≤ (r : Int) := by omega
        clear hc4 hc5 hr1
        go_wp2_with fail
        refine (putFrameR_nil (some ⟨b1, o1, none⟩) 0 _ body F HFF.out _ HBR.out (by omega)).mono ?_
        rintro e w2 ⟨A2, c2, rfl, ho2, hb2⟩
        have HB2 := Lib.hid hb2
        have hFr := Rd.of_own ho2
        have hGr : Rd w2 A F.length (by8 G) := by
          rw [← HGG.out, by8_take]
          exact ((HH.out.mod0 (Mod.of_below HB1.out)).mod0 (Mod.of_below hb2)).take hFl
        have h1 := fun j => conv_str (P := Tryz.prog) (w2.drewN j) 44 9 5 A2 F.length c2 F Tryz.underlying44 Tryz.underlying5 Tryz.underlying9 (hFr.drewN j)
        have h2 := fun j => conv_str (P := Tryz.prog) (w2.drewN j) 44 9 5 A F.length c G Tryz.underlying44 Tryz.underlying5 Tryz.underlying9 (hGr.drewN j)
        have hfc : (F.length : Int) ≤ (c : Int) := by omega
        have hf0 : (0 : Int) ≤ (F.length : Int) := by omega
        have hsz2 := hb2.size
        clear ho2 hb2 hFr hGr
        by_cases he : F = G
        · have HV := Lib.hid (T1.out he)
          subst he
          go_wp2_with fail
          go_quiet (fail)
          clear h1 h2
          go_wp2_with fail
          go_quiet (fail)
          clear q2 q5 q7 q8 q9
          go_wp2_with fail
          go_ret3
          exact tfq_some HV.out HBL.out HTLL0.out (((HBR.out.mod0 (Mod.of_below HB2.out)).drewN _).drewN _) (fun b hb => by cases hb; exact hbb) (by omega) (by omega) (((HTR.out.mod0 (Mod.of_below HB2.out)).drewN _).drewN _) (fun b hb => by cases hb; exact hbb) (by omega) (by omega) (below_drewN' (below_drewN' (HB1.out.trans (HB2.out.mono hsz1)) _) _)
        · have HV := Lib.hid (T2.out he)
          have hs2 : (F == G) = false := beq_eq_false_iff_ne.2 he
          clear he
          go_wp2_with fail
          go_quiet (fail)
          clear h1 h2
          go_wp2_with fail
          go_ret3
          exact tfq_none HV.out (below_drewN' (HB1.out.trans (HB2.out.mono hsz1)) _)
      · rw [if_neg e1] at hc4
        rw [if_pos rfl] at hc5
        have HBR : Hid (Rd w1 (some ⟨b1, o1 + 4, none⟩) m (by8 body)) := hc4
        have HTR : Hid (Rd w1 (some ⟨b1, o1, none⟩) 0 (by8 tl)) := by
          have h0 : Rd w1 (some ⟨b1, o1, none⟩) (r - (4 + m)) (by8 tl) := hc5
          show Rd _ _ _ _
          rwa [show r - (4 + m) = 0 from by omega] at h0
        have HTLL0 : Hid (tl.length = 0) := by have h0 := HTLL.out; show _ = _; omega
        clear hc4 hc5 hr1
        go_wp2_with fail
        refine (putFrameR_nil (some ⟨b1, o1 + 4, none⟩) m _ body F HFF.out _ HBR.out (by omega)).mono ?_
        rintro e w2 ⟨A2, c2, rfl, ho2, hb2⟩
        have HB2 := Lib.hid hb2
        have hFr := Rd.of_own ho2
        have hGr : Rd w2 A F.length (by8 G) := by
          rw [← HGG.out, by8_take]
          exact ((HH.out.mod0 (Mod.of_below HB1.out)).mod0 (Mod.of_below hb2)).take hFl
        have h1 := fun j => conv_str (P := Tryz.prog) (w2.drewN j) 44 9 5 A2 F.length c2 F Tryz.underlying44 Tryz.underlying5 Tryz.underlying9 (hFr.drewN j)
        have h2 := fun j => conv_str (P := Tryz.prog) (w2.drewN j) 44 9 5 A F.length c G Tryz.underlying44 Tryz.underlying5 Tryz.underlying9 (hGr.drewN j)
        have hfc : (F.length : Int) ≤ (c : Int) := by omega
        have hf0 : (0 : Int) ≤ (F.length : Int) := by omega
        have hsz2 := hb2.size
        clear ho2 hb2 hFr hGr
        by_cases he : F = G
        · have HV := Lib.hid (T1.out he)
          subst he
          go_wp2_with fail
          go_quiet (fail)
          clear h1 h2
          go_wp2_with fail
          go_quiet (fail)
          clear q2 q5 q7 q8 q9
          go_wp2_with fail
          go_ret3
          exact tfq_some HV.out HBL.out HTLL0.out (((HBR.out.mod0 (Mod.of_below HB2.out)).drewN _).drewN _) (fun b hb => by cases hb; exact hbb) (by omega) (by omega) (((HTR.out.mod0 (Mod.of_below HB2.out)).drewN _).drewN _) (fun b hb => by cases hb; exact hbb) (by omega) (by omega) (below_drewN' (below_drewN' (HB1.out.trans (HB2.out.mono hsz1)) _) _)
        · have HV := Lib.hid (T2.out he)
          have hs2 : (F == G) = false := beq_eq_false_iff_ne.2 he
          clear he
          go_wp2_with fail
          go_quiet (fail)
          clear h1 h2
          go_wp2_with fail
          go_ret3
          exact tfq_none HV.out (below_drewN' (HB1.out.trans (HB2.out.mono hsz1)) _)
      · rw [if_neg e1] at hc4
        rw [if_neg e2] at hc5
        have HBR : Hid (Rd w1 (some ⟨b1, o1 + 4, none⟩) m (by8 body)) := hc4
        have HTR : Hid (Rd w1 (some ⟨b1, o1 + (4 + m), none⟩) (r - (4 + m)) (by8 tl)) := by
          have := hc5
          simp only [Option.map_some, Addr.add] at this
          show Rd _ _ _ _
          rwa [if_neg (by omega)] at this
        clear hc4 hc5 hr1
        go_wp2_with fail
        refine (putFrameR_nil (some ⟨b1, o1 + 4, none⟩) m _ body F HFF.out _ HBR.out (by omega)).mono ?_
        rintro e w2 ⟨A2, c2, rfl, ho2, hb2⟩
        have HB2 := Lib.hid hb2
        have hFr := Rd.of_own ho2
        have hGr : Rd w2 A F.length (by8 G) := by
          rw [← HGG.out, by8_take]
          exact ((HH.out.mod0 (Mod.of_below HB1.out)).mod0 (Mod.of_below hb2)).take hFl
        have h1 := fun j => conv_str (P := Tryz.prog) (w2.drewN j) 44 9 5 A2 F.length c2 F Tryz.underlying44 Tryz.underlying5 Tryz.underlying9 (hFr.drewN j)
        have h2 := fun j => conv_str (P := Tryz.prog) (w2.drewN j) 44 9 5 A F.length c G Tryz.underlying44 Tryz.underlying5 Tryz.underlying9 (hGr.drewN j)
        have hfc : (F.length : Int) ≤ (c : Int) := by omega
        have hf0 : (0 : Int) ≤ (F.length : Int) := by omega
        have hsz2 := hb2.size
        clear ho2 hb2 hFr hGr
        by_cases he : F = G
        · have HV := Lib.hid (T1.out he)
          subst he
          go_wp2_with fail
          go_quiet (fail)
          clear h1 h2
          go_wp2_with fail
          go_quiet (fail)
          clear q2 q5 q7 q8 q9
          go_wp2_with fail
          go_ret3
          exact tfq_some HV.out HBL.out HTLL.out (((HBR.out.mod0 (Mod.of_below HB2.out)).drewN _).drewN _) (fun b hb => by cases hb; exact hbb) (by omega) (by omega) (((HTR.out.mod0 (Mod.of_below HB2.out)).drewN _).drewN _) (fun b hb => by cases hb; exact hbb) (by omega) (by omega) (below_drewN' (below_drewN' (HB1.out.trans (HB2.out.mono hsz1)) _) _)
        · have HV := Lib.hid (T2.out he)
          have hs2 : (F == G) = false := beq_eq_false_iff_ne.2 he
          clear he
          go_wp2_with fail
          go_quiet (fail)
          clear h1 h2
          go_wp2_with fail
          go_ret3
          exact tfq_none HV.out (below_drewN' (HB1.out.trans (HB2.out.mono hsz1)) _)

end Go.Proofs.YtdpjnpjmokncdaaGreatDoor
