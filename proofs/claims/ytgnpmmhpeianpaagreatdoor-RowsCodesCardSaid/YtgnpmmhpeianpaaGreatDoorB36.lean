/- sha.Sum. -/
import Derived.Test.YtgnpmmhpeianpaaGreatDoorB27
import Derived.Test.YtgnpmmhpeianpaaGreatDoorB03
import Derived.Test.YtgnpmmhpeianpaaGreatDoorB14
import Derived.Test.YtgnpmmhpeianpaaGreatDoorB10
import Derived.Lib.ConvBytes
namespace Go.Proofs.YtgnpmmhpeianpaaGreatDoor
open Go.RowKit

/-- the length in the slot. -/
def lenV : Value → Nat
  | .slice _ n _ => n
  | _ => 0
theorem lenB_take (x : Int) (p j : Nat) (h : p + j = 7) : (lenB x).take j ++ [lowB (x / ((2 ^ (8 * p) : Nat) : Int))] = (lenB x).take (j + 1) := by
  have hj : (lenB x)[j]? = some (lowB (x / ((2 ^ (8 * p) : Nat) : Int))) := by
    unfold lenB
    rw [List.getElem?_map, List.getElem?_range (by omega)]
    simp only [Option.map_some]
    rw [show 7 - j = p by omega]
  rw [List.take_add_one, hj]
  rfl
theorem lenB_take' (x : Int) (p j : Nat) (h : p + j = 7) : (lenB x).take j ++ [lowB (x / 2 ^ (8 * p))] = (lenB x).take (j + 1) := by
  have := lenB_take x p j h
  rwa [Int.natCast_pow] at this
def s0Lit : Array Value := #[.int .u32 1779033703, .int .u32 3144134277, .int .u32 1013904242, .int .u32 2773480762, .int .u32 1359893119, .int .u32 2600822924, .int .u32 528734635, .int .u32 1541459225]
theorem s0Lit_eq : s0Lit = v32s st0.list := by kernel_rfl

/-- how things stand while the bytes are laid. -/
structure SumM (w : World) (s : St) (v : Value) (q : Nat) (bs : List UInt8) (wr : World) : Prop where
  own : wr.ownsRow (w.heap.size + 1) 5 1 v q (by8 bs)
  blk : Blk wr w.heap.size 185 (v32s s.list)
  mod : Mod Non w wr
theorem SumM.app {w wr w3 : World} {s : St} {v v' : Value} {q q' : Nat} {bs bs' : List UInt8} (h : SumM w s v q bs wr) (o : Obj) (g : (wr.alloc o).grownBy w3 v.ownBlock)
    (ho : w3.ownsRow (w.heap.size + 1) 5 1 v' q' (by8 bs')) : SumM w s v' q' bs' w3 :=
  ⟨ho, (h.blk.alloc o).mod (Mod.of_grown (S := fun k => v.ownBlock = some k) g fun _ e => e) fun e => by have := (h.own.lt _ e).1; omega,
    (h.mod.alloc o).grown g fun k e => .inr (by have := (h.own.lt _ e).1; omega)⟩
theorem replicate_snoc (k : Nat) : List.replicate k (0 : UInt8) ++ [0] = List.replicate (k + 1) 0 := by rw [List.replicate_succ']

set_option maxRecDepth 100000 in
theorem idx8 (s : St) (k : Nat) (hk : k < 8) : ∀ w, (Instr.index 185 (.agg (v32s s.list)) (.int .i64 (k : Int))).run Tryz.prog w = .ok (.int .u32 ((s.list.getD k 0).toNat : Int)) w := by
  match k, hk with
  | 0, _ => exact fun _ => by kernel_rfl
  | 1, _ => exact fun _ => by kernel_rfl
  | 2, _ => exact fun _ => by kernel_rfl
  | 3, _ => exact fun _ => by kernel_rfl
  | 4, _ => exact fun _ => by kernel_rfl
  | 5, _ => exact fun _ => by kernel_rfl
  | 6, _ => exact fun _ => by kernel_rfl
  | 7, _ => exact fun _ => by kernel_rfl
theorem rd_w4 (w : World) (t : TypeId) (x : B32) : Rd (w.alloc (.cells #[.int .u8 ((x.toNat : Int) / 16777216), .int .u8 ((x.toNat : Int) / 65536 % 256), .int .u8 ((x.toNat : Int) / 256 % 256), .int .u8 ((x.toNat : Int) % 256)] t)) (some ⟨w.heap.size, 0, none⟩) 4 (by8 (w4 x)) := by
  have := rd_new w t (by8 (w4 x))
  have e : (by8 (w4 x)).toArray = #[.int .u8 ((x.toNat : Int) / 16777216), .int .u8 ((x.toNat : Int) / 65536 % 256), .int .u8 ((x.toNat : Int) / 256 % 256), .int .u8 ((x.toNat : Int) % 256)] := by
    have hlt := x.isLt
    have h1 : (x.toNat : Int) / 16777216 % 256 = (x.toNat : Int) / 16777216 := by omega
    simp [by8, w4, b8_lowB, h1]
  rw [e] at this
  exact this

set_option maxRecDepth 100000 in
set_option maxHeartbeats 4000000 in
theorem sum_any (A : Option Addr) (n c : Nat) (l : List UInt8) (w : World) (h : Rd w A n (by8 l)) (hn : n ≤ 140737488354500) :
    Calls Tryz.prog 57 #[.slice A n c] w fun e w' => e = .returned (.string ⟨(shaB l).toArray⟩) ∧ Mod Non w w' := by
  have hll : l.length = n := by simpa using h.1
  have HH := Lib.hid h
  have HLL := Lib.hid hll
  clear h hll
  go_enter Tryz.func57, Tryz.ntmps57
  go_wp2_with fail
  generalize hw1 : World.alloc w _ = w1
  have HB1 : Hid (Blk w1 w.heap.size 185 (v32s st0.list)) := by
    rw [← s0Lit_eq]
    rw [← hw1]
    exact Blk.new w 185 s0Lit
  have HM1 : Hid (Mod Non w w1) := by rw [← hw1]; exact (Mod.refl _ _).alloc _
  have hz1 : w.heap.size + 1 = w1.heap.size := by rw [← hw1]; simp
  have HZ1 := Lib.hid hz1
  clear hw1 hz1
  refine (clone_any A n c l w1 (HH.out.mod0 HM1.out) (by omega)).mono ?_
  rintro e w2 ⟨A1, c1, rfl, ho1, hb1⟩
  have HO1 := Lib.hid (ho1.alloc (.cells #[b8 128] 5))
  have HM2 := Lib.hid (HM1.out.trans0 (Mod.of_below (S := Non) hb1))
  have HB2 := Lib.hid (HB1.out.mod (Mod.of_below (S := Non) hb1) fun h => h)
  have hz2 := hb1.size
  have HS2 : Hid (SumM w st0 (.slice A1 n c1) n l w2) := ⟨by rw [HZ1.out]; exact ho1, HB2.out, HM2.out⟩
  have HBA1 := Lib.hid (own_base ho1)
  clear ho1 hb1
  go_wp2_with (at_builtin; refine wpList_app8 bt _ rfl (.tmp 12) (.tmp 13) rfl w1.heap.size (.slice A1 n c1) n l rfl HO1.out (some ⟨w2.heap.size, 0, none⟩) 1 1 [128] rfl (one_byte w2 5 128) (n + 1) rfl (l ++ [128]) rfl (by omega) (by simp; omega) ?_; intro A2 c2 w3 hc2 ho3 hg3 ha3)
  have HS3 : Hid (SumM w st0 (.slice A2 (n + 1) c2) (n + 1) (l ++ (128 :: List.replicate 0 0)) w3) := HS2.out.app _ hg3 (by rw [HZ1.out]; exact ho3)
  have hc3 : c2 ≤ 9223372036854775807 := by
    obtain ⟨_, _, e, _, h2⟩ := own_slice ho3
    cases e
    simpa [maxLen] using h2
  clear ho3 hg3 ha3 HO1 HBA1 HB2 HM2 HB1 hz2
  obtain ⟨zn, hzn⟩ : ∃ zn, zerosN n = zn := ⟨_, rfl⟩
  have hz64 : zn < 64 := by rw [← hzn]; unfold zerosN; omega
  have HZN := Lib.hid hzn
  clear hzn
  go_loopw [4] (fun v wr => ∃ (k q cq : Nat) (Aq : Option Addr), k ≤ zn ∧ q = n + 1 + k ∧ v = .slice Aq q cq ∧ q ≤ cq ∧ cq ≤ 9223372036854775807 ∧ Hid (SumM w st0 (.slice Aq q cq) q (l ++ (128 :: List.replicate k 0)) wr)) (fun v _ => zn + n + 1 - lenV v)
  case atStart => exact ⟨0, n + 1, c2, A2, Nat.zero_le _, rfl, rfl, hc2, hc3, HS3.out⟩
  case round =>
    clear HS3 hc2 hc3
    obtain ⟨k, q, cq, Aq, hk, hq, rfl, hq1, hq2, HS⟩ := hrel
    rename World => wr
    by_cases hlt : k < zn
    · have hb : ((q : Int) % 64 != 56) = true := by
        rw [bne_iff_ne]
        have h1 := HZN.out
        unfold zerosN at h1
        omega
      have hq64 : q ≤ 140737488354600 := by omega
      have HQ := Lib.hid hq
      have hsz := HS.out.mod.size
      have hown := HS.out.own.alloc (.cells #[b8 0] 5)
      have HOWN := Lib.hid hown
      have hws := HS.out.blk.lt
      have hmx : w.heap.size + 1 ≤ wr.heap.size := hws
      clear hq hown
      go_wp2_with (at_builtin; refine wpList_app8 bt _ rfl (.tmp 19) (.tmp 20) rfl (w.heap.size + 1) (.slice Aq q cq) q (l ++ (128 :: List.replicate k 0)) rfl HOWN.out (some ⟨wr.heap.size, 0, none⟩) 1 1 [0] rfl (one_byte wr 5 0) (q + 1) rfl _ rfl (by omega) (by simp; omega) ?_; intro A' c' w' hc' ho' hg' ha')
      have hc9 : c' ≤ 9223372036854775807 := by
        obtain ⟨_, _, e, _, h2⟩ := own_slice ho'
        cases e
        simpa [maxLen] using h2
      have HS' : Hid (SumM w st0 (.slice A' (q + 1) c') (q + 1) (l ++ (128 :: List.replicate (k + 1) 0)) w') := by
        refine HS.out.app _ hg' ?_
        rw [← replicate_snoc]
        simpa using ho'
      clear ho' hg' ha'
      go_wp2_with fail
      go_roundw
      case rel => exact ⟨k + 1, q + 1, c', A', by omega, by have := HQ.out; omega, rfl, hc', hc9, HS'.out⟩
      case measure => simp [lenV]; have := HQ.out; omega
    · have hkz : k = zn := by omega
      have hb : ((q : Int) % 64 != 56) = false := by
        have h1 := HZN.out
        unfold zerosN at h1
        simp
        omega
      have HKZ := Lib.hid hkz
      have HQ := Lib.hid hq
      clear hkz hq
      obtain ⟨P1, hP1⟩ : ∃ P1, l ++ (128 :: List.replicate k 0) = P1 := ⟨_, rfl⟩
      rw [hP1] at HS
      have HP1 := Lib.hid hP1
      have hq64 : q ≤ 140737488354600 := by have := HQ.out; omega
      clear hP1
      go_wp2_with fail
      go_loopw [4, 6] (fun v i wx => ∃ (z : Int) (q2 cq2 : Nat) (Aq2 : Option Addr), -1 ≤ z ∧ z ≤ 7 ∧ i = .int .i64 z ∧ q2 = q + (7 - z).toNat ∧ v = .slice Aq2 q2 cq2 ∧ q2 ≤ cq2 ∧ cq2 ≤ 9223372036854775807 ∧ Hid (SumM w st0 (.slice Aq2 q2 cq2) q2 (P1 ++ (lenB ((n : Int) * 8)).take (7 - z).toNat) wx)) (fun _ i _ => (intOf i + 1).toNat)
      case atStart => exact ⟨7, q, cq, Aq, by omega, by omega, rfl, by omega, rfl, hq1, hq2, by show SumM _ _ _ _ _ _; simpa using HS.out⟩
      case round =>
        clear HS
        obtain ⟨z, q2, cq2, Aq2, hz1, hz2, rfl, hqq, rfl, hq3, hq4, HS⟩ := hrel
        rename World => wx
        by_cases hz0 : 0 ≤ z
        · obtain ⟨p, rfl⟩ := Int.eq_ofNat_of_zero_le hz0
          obtain ⟨j, hj⟩ : ∃ j, p + j = 7 := ⟨7 - p, by omega⟩
          have hjz : (7 - (p : Int)).toNat = j := by omega
          have hjz2 : (7 - ((p : Int) - 1)).toNat = j + 1 := by omega
          rw [hjz] at HS hqq
          have hbv : b8 (lowB ((n : Int) * 8 / 2 ^ (8 * p))) = .int .u8 ((n : Int) * 8 / 2 ^ (8 * p) % 256) := b8_lowB _
          have hone := one_byte wx 5 (lowB ((n : Int) * 8 / 2 ^ (8 * p)))
          rw [hbv] at hone
          have HONE := Lib.hid hone
          have HQQ := Lib.hid hqq
          have hown := HS.out.own.alloc (.cells #[.int .u8 ((n : Int) * 8 / 2 ^ (8 * p) % 256)] 5)
          have HOWN := Lib.hid hown
          have hmx : w.heap.size + 1 ≤ wx.heap.size := HS.out.blk.lt
          have hq5 : q2 ≤ 140737488354700 := by omega
          have i0 : (0 : Int) ≤ (p : Int) := by omega
          have i1 : (0 : Int) ≤ 8 * (p : Int) := by omega
          have i2 : 8 * (p : Int) ≤ 64 := by omega
          have v0 : IntKind.i64.wrap (8 * (p : Int)) = 8 * (p : Int) := IntWalk.i64_in _ (by constructor <;> omega)
          have t0 : (8 * (p : Int)).toNat = 8 * p := by omega
          have HJ := Lib.hid hj
          have HJ2 := Lib.hid hjz2
          clear hown hone hbv hqq hj hjz hjz2
          go_wp2_with (at_builtin; refine wpList_app8 bt _ rfl (.tmp 30) (.tmp 36) rfl (w.heap.size + 1) (.slice Aq2 q2 cq2) q2 _ rfl HOWN.out (some ⟨wx.heap.size, 0, none⟩) 1 1 [lowB ((n : Int) * 8 / 2 ^ (8 * p))] rfl HONE.out (q2 + 1) rfl _ rfl (by omega) (by simp; omega) ?_; intro A' c' w' hc' ho' hg' ha')
          have hc9 : c' ≤ 9223372036854775807 := by
            obtain ⟨_, _, e, _, h2⟩ := own_slice ho'
            cases e
            simpa [maxLen] using h2
          have HS' : Hid (SumM w st0 (.slice A' (q2 + 1) c') (q2 + 1) (P1 ++ (lenB ((n : Int) * 8)).take (j + 1)) w') := by
            refine HS.out.app _ hg' ?_
            rw [← lenB_take' _ p j HJ.out, ← List.append_assoc]
            exact ho'
          clear ho' hg' ha'
          go_wp2_with fail
          go_roundw
          case rel => exact ⟨(p : Int) - 1, q2 + 1, c', A', by omega, by omega, by go_num, by rw [HJ2.out]; have := HQQ.out; omega, rfl, hc', hc9, by rw [HJ2.out]; exact HS'.out⟩
          case measure => simp [intOf] <;> omega
        · have hzm : z = -1 := by omega
          have hdz : decide (0 ≤ z) = false := decide_eq_false (by omega)
          have h8 : (7 - z).toNat = 8 := by omega
          rw [h8] at HS hqq
          have HZM := Lib.hid hzm
          have HQQ := Lib.hid hqq
          clear hzm h8 hqq
          have hpad : P1 ++ (lenB ((n : Int) * 8)).take 8 = padB l := by
            rw [List.take_of_length_le (by rw [lenB_len]; omega), ← HP1.out, HKZ.out, ← HZN.out, show ((n : Int) * 8) = 8 * (l.length : Int) by rw [HLL.out]; omega]
            unfold padB
            rw [List.append_assoc]
            rw [HLL.out]
          rw [hpad] at HS
          have hlen : (padB l).length = q2 := by
            have := (Rd.of_own HS.out.own).1
            simpa using this
          have h64 : 64 * (q2 / 64) = q2 := by rw [← hlen]; exact padB_64 l
          have hqb : q2 ≤ 140737488354700 := by have := HQQ.out; omega
          obtain ⟨FIN, hFIN⟩ : ∃ F, blocksSt (q2 / 64) st0 (padB l) = F := ⟨_, rfl⟩
          have HFIN := Lib.hid hFIN
          have HLEN := Lib.hid hlen
          have hnb : ∀ b, blkOf Aq2 = some b → b ≠ w.heap.size := fun b hb => by have := own_base HS.out.own b hb; omega
          have HNB := Lib.hid hnb
          clear hpad hlen hFIN hnb
          go_wp2_with fail
          go_loopw [4] (fun v wy => ∃ (r cr : Nat) (Ar : Option Addr) (st : St) (rest : List UInt8), v = .slice Ar r cr ∧ r ≤ cr ∧ cr ≤ 9223372036854775807 ∧ r ≤ 140737488354700 ∧ 64 * (r / 64) = r ∧ Hid (Rd wy Ar r (by8 rest)) ∧ Hid (∀ b, blkOf Ar = some b → b ≠ w.heap.size) ∧ Hid (Blk wy w.heap.size 185 (v32s st.list)) ∧ Hid (Mod Non w wy) ∧ Hid (blocksSt (r / 64) st rest = FIN)) (fun v _ => lenV v)
          case atStart => exact ⟨q2, cq2, Aq2, st0, padB l, rfl, hq3, hq4, hqb, h64, Rd.of_own HS.out.own, HNB.out, HS.out.blk, HS.out.mod, HFIN.out⟩
          case round =>
            clear HS HNB hqb h64 hq3 hq4
            obtain ⟨r, cr, Ar, st, rest, rfl, hr1, hr2, hr3, hr64, HRr, HNr, HBr, HMr, HFr⟩ := hrel
            rename World => wy
            by_cases hr0 : 0 < r
            · have hr6 : 64 ≤ r := by omega
              obtain ⟨b, o, rfl, _⟩ := HRr.out.at_ hr0
              obtain ⟨m, hm⟩ : ∃ m, r / 64 = m + 1 := ⟨r / 64 - 1, by omega⟩
              have hfr := HFr.out
              rw [hm, blocksSt] at hfr
              have htk := HRr.out.take (k := 64) hr6
              rw [← by8_take] at htk
              have hdr := HRr.out.cut (k := 64) (cap := cr) hr6 hr1
              rw [← by8_drop] at hdr
              have HTK := Lib.hid (take_any w.heap.size 185 st (some ⟨b, o, none⟩) 64 cr (rest.take 64) wy HBr.out htk (by omega) (by omega))
              have HDR := Lib.hid hdr
              have HFR := Lib.hid hfr
              have hmr : (r - 64) / 64 = m := by omega
              have HMRR := Lib.hid hmr
              have hne : b ≠ w.heap.size := HNr.out b rfl
              have k1 : (64 : Int) ≤ (cr : Int) := by omega
              have k2 : (64 : Int) ≤ (r : Int) := by omega
              have k3 : (r : Int) ≤ (cr : Int) := by omega
              have k4 : (0 : Int) < (r : Int) := by omega
              have hr64' : 64 * ((r - 64) / 64) = r - 64 := by omega
              clear hfr htk hdr hm hmr
              by_cases hc64 : cr = 64
              · subst hc64
                obtain rfl : r = 64 := by omega
                go_wp2_with (first | (go_at_call 95; refine HTK.out.mono ?_; rintro e w7 ⟨rfl, hb7, hm7⟩; have HB7 := Lib.hid hb7; have HM7 := Lib.hid hm7; clear hb7 hm7) | fail)
                go_roundw
                case rel =>
                  have h9 := HDR.out.mod HM7.out fun _ k hk e => hne (by
                    have hk2 : b = k := by simpa [blkOf] using hk
                    omega)
                  exact ⟨0, 0, some ⟨b, o, none⟩, blockSt st (rest.take 64), rest.drop 64, rfl, by omega, by omega, by omega, by omega, Lib.hid (by simpa using h9), HNr.out, HB7.out, HMr.out.trans HM7.out fun k hk => .inr (by omega), Lib.hid (by rw [← HFR.out, ← HMRR.out])⟩
                case measure => simp [lenV]
              · have hc65 : ¬ (cr : Int) = 64 := by omega
                go_wp2_with (first | (go_at_call 95; refine HTK.out.mono ?_; rintro e w7 ⟨rfl, hb7, hm7⟩; have HB7 := Lib.hid hb7; have HM7 := Lib.hid hm7; clear hb7 hm7) | fail)
                go_roundw
                case rel =>
                  have h9 := HDR.out.mod HM7.out fun _ k hk e => hne (by
                    have hk2 : b = k := by
                      rw [if_neg hc64] at hk
                      simpa [blkOf, Addr.add] using hk
                    omega)
                  rw [if_neg hc64] at h9
                  exact ⟨r - 64, cr - 64, some ⟨b, o + 64, none⟩, blockSt st (rest.take 64), rest.drop 64, rfl, by omega, by omega, by omega, hr64', Lib.hid (by simpa [Addr.add] using h9), fun j hj => by
                    have hk2 : b = j := by simpa [blkOf] using hj
                    omega, HB7.out, HMr.out.trans HM7.out fun k hk => .inr (by omega), Lib.hid (by rw [HMRR.out]; exact HFR.out)⟩
                case measure => simp [lenV]; omega
            · obtain rfl : r = 0 := by omega
              have hst : st = FIN := HFr.out
              subst hst
              have hsz8 := hi8
              rw [show (8 : Nat) = (v32s st.list).size from rfl] at hsz8
              obtain ⟨V, hV⟩ : ∃ V, v32s st.list = V := ⟨_, rfl⟩
              rw [hV] at HBr hsz8
              have HV := Lib.hid hV
              have H8 := Lib.hid hsz8
              have hmw := HMr.out.size
              clear hV hsz8
              go_wp2_with (first
                | (refine wpList_load_row rfl 185 (.tmp 3) rfl w.heap.size rfl _ _ (0, 0) _ HBr.out Tryz.underlying185 rfl H8.out ?_)
                | fail)
              go_loopw [7, 47] (fun v i wz => ∃ (k q3 c3 : Nat) (A3 : Option Addr), k ≤ 8 ∧ i = .int .i64 k ∧ q3 = 4 * k ∧ v = .slice A3 q3 c3 ∧ q3 ≤ c3 ∧ Hid (wz.ownsRow w.heap.size 5 1 (.slice A3 q3 c3) q3 (by8 (w4s (st.list.take k)))) ∧ Hid (Mod Non w wz)) (fun _ i _ => 8 - (intOf i).toNat)
              case atStart => exact ⟨0, 0, 0, none, by omega, rfl, rfl, rfl, Nat.le_refl _, ⟨rfl, .inl ⟨rfl, rfl⟩⟩, HMr.out⟩
              case round =>
                clear HBr HMr hmw
                obtain ⟨k, q3, c3, A3, hk, rfl, hq3', rfl, hqc, HOz, HMz⟩ := hrel
                rename World => wz
                by_cases hk8 : k < 8
                · have hix := idx8 st k hk8
                  rw [HV.out] at hix
                  obtain ⟨x, hx⟩ : ∃ x, st.list.getD k 0 = x := ⟨_, rfl⟩
                  rw [hx] at hix
                  have hgk : st.list[k]? = some x := by
                    rw [← hx, List.getD_eq_getElem?_getD, List.getElem?_eq_getElem (by exact hk8)]
                    rfl
                  have HSN : Hid (w4s (st.list.take k) ++ w4 x = w4s (st.list.take (k + 1))) := by
                    show _ = _
                    rw [take_snoc' _ _ _ hgk, w4s_snoc]
                  have hmz := HMz.out.size
                  have HOW := Lib.hid (HOz.out.alloc (.cells #[.int .u8 ((x.toNat : Int) / 16777216), .int .u8 ((x.toNat : Int) / 65536 % 256), .int .u8 ((x.toNat : Int) / 256 % 256), .int .u8 ((x.toNat : Int) % 256)] 5))
                  have HRW := Lib.hid (rd_w4 wz 5 x)
                  have HQ3 := Lib.hid hq3'
                  have hq32 : q3 ≤ 32 := by omega
                  have i1 : (0 : Int) ≤ (k : Int) := by omega
                  have i2 : (k : Int) < 8 := by omega
                  clear hx hgk hq3'
                  go_wp2_with (at_builtin; refine wpList_app8 bt _ rfl (.tmp 50) (.tmp 62) rfl w.heap.size (.slice A3 q3 c3) q3 _ rfl HOW.out (some ⟨wz.heap.size, 0, none⟩) 4 4 (w4 x) rfl HRW.out (q3 + 4) rfl _ HSN.out (by omega) (by simp; omega) ?_; intro A' c' w' hc' ho' hg' ha')
                  have HO' := Lib.hid ho'
                  have HM' : Hid (Mod Non w w') := (HMz.out.alloc _).grown hg' fun j hj => .inr (HOW.out.lt j hj).1
                  clear ho' hg' ha' hix
                  go_wp2_with fail
                  go_roundw
                  case rel => exact ⟨k + 1, q3 + 4, c', A', by omega, by go_num, by have := HQ3.out; omega, rfl, hc', HO'.out, HM'.out⟩
                  case measure => simp [intOf]; omega
                · have hk8' : k = 8 := by omega
                  have hfin : w4s (st.list.take k) = shaB l := by
                    rw [hk8']
                    unfold shaB
                    rw [HLEN.out, HFIN.out]
                    rfl
                  rw [hfin] at HOz
                  have hcv := conv_str (P := Tryz.prog) wz 27 9 5 A3 q3 c3 (shaB l) Tryz.underlying27 Tryz.underlying5 Tryz.underlying9 (Rd.of_own HOz.out)
                  have hd8 : decide ((k : Int) < 8) = false := decide_eq_false (by omega)
                  obtain ⟨sv, hsv⟩ : ∃ sv : ByteArray, (⟨(shaB l).toArray⟩ : ByteArray) = sv := ⟨_, rfl⟩
                  rw [hsv] at hcv
                  have HSV := Lib.hid hsv
                  clear hk8' hfin hsv hq3'
                  go_wp2_with fail
                  go_ret
                  exact ⟨by rw [HSV.out]; rfl, HMz.out⟩

end Go.Proofs.YtgnpmmhpeianpaaGreatDoor

/- sha.Mac. -/
namespace Go.Proofs.YtgnpmmhpeianpaaGreatDoor
open Go.RowKit

/-- a row of bytes, its first so many turned by a mask. -/
def maskTo (K : List UInt8) (m : UInt8) (j : Nat) : List UInt8 := (K.take j).map (· ^^^ m) ++ K.drop j
theorem maskTo_zero (K : List UInt8) (m : UInt8) : maskTo K m 0 = K := by simp [maskTo]
theorem maskTo_all (K : List UInt8) (m : UInt8) (j : Nat) (h : K.length ≤ j) : maskTo K m j = K.map (· ^^^ m) := by
  unfold maskTo
  rw [List.take_of_length_le h, List.drop_eq_nil_of_le h, List.append_nil]
theorem maskTo_len (K : List UInt8) (m : UInt8) (j : Nat) : (maskTo K m j).length = K.length := by simp [maskTo]; omega
theorem maskTo_get (K : List UInt8) (m : UInt8) (j : Nat) : (maskTo K m j)[j]? = K[j]? := by
  unfold maskTo
  rcases Nat.lt_or_ge j K.length with h | h
  · rw [List.getElem?_append_right (by simp [List.length_take]; omega)]
    simp [List.length_take, Nat.min_eq_left (Nat.le_of_lt h)]
  · rw [List.getElem?_eq_none (by simp; omega), List.getElem?_eq_none h]
theorem maskTo_set (K : List UInt8) (m : UInt8) (j : Nat) (c : UInt8) (h : K[j]? = some c) : (maskTo K m j).set j (c ^^^ m) = maskTo K m (j + 1) := by
  obtain ⟨hl, hc⟩ := List.getElem?_eq_some_iff.1 h
  unfold maskTo
  rw [List.set_append_right _ _ (by simp [List.length_take]; omega)]
  have hd : K.drop j = c :: K.drop (j + 1) := by rw [← hc]; exact List.drop_eq_getElem_cons hl
  rw [hd, List.take_add_one, h]
  simp [List.length_take, Nat.min_eq_left (Nat.le_of_lt hl)]

theorem xor54 (c : UInt8) : bits .xor .u8 (c.toNat : Int) 54 = ((c ^^^ 54).toNat : Int) := xor8 c 54
theorem xor92 (c : UInt8) : bits .xor .u8 (c.toNat : Int) 92 = ((c ^^^ 92).toNat : Int) := xor8 c 92

def zero64B : Array Value := (by8 (List.replicate 64 0)).toArray
theorem mk64 : ∀ w, (Instr.makeSlice 27 (.int .i64 64) (.int .i64 64)).run Tryz.prog w = .ok (.slice (some ⟨w.heap.size, 0, none⟩) 64 64) (w.alloc (.cells zero64B 5)) := fun _ => by kernel_rfl
theorem hsz8 : (Tryz.prog.info? 5).map (·.size) = some 1 := by kernel_rfl

/-- copy into the front of a row that is known whole. -/
theorem wpList_copy_in {P : Program} {w : World} {ops : Array Oper} {rest : List Oper} {o : Oper} {a : Act} {Q : Exit → Act → World → Prop} (hgd : o.guard = none) (d s : Operand) (dT sT : TypeId)
    (ho : o.op = .call { callee := .builtin .copy, args := #[d, s], argTypes := #[dT, sT] }) (elem : TypeId) (hu : P.underlying dT = some (.slice elem)) (hsz : (P.info? elem).map (·.size) = some 1)
    (g : Nat) (sp : Option Addr) (dLen dCap sLen sCap : Nat) (hd : a.eval d = .slice (some ⟨g, 0, none⟩) dLen dCap) (hs : a.eval s = .slice sp sLen sCap)
    (cur : List UInt8) (t : TypeId) (hg : Blk w g t (by8 cur).toArray) (cs : List UInt8) (hr : Rd w sp sLen (by8 cs)) (hle : sLen ≤ dLen) (hcl : cur.length = dLen)
    (h : ∀ w', Hid (Blk w' g t (by8 (cs ++ cur.drop sLen)).toArray) → Hid (Mod (fun k => k = g) w w') → wpList P ops Q rest (a.put o.dst (goInt sLen)) w') :
    wpList P ops Q (o :: rest) a w := by
  have hcs : cs.length = sLen := by simpa using hr.1
  by_cases h0 : sLen = 0
  · subst h0
    obtain rfl : cs = [] := List.eq_nil_of_length_eq_zero hcs
    refine wpList_copy_nothing hgd d s dT sT ho elem hu hsz _ sp dLen dCap 0 sCap hd hs (by simp) ?_
    exact h w (show Blk _ _ _ _ by simpa using hg) (Mod.refl (fun k => k = g) w)
  · obtain ⟨b, o', rfl, hc⟩ := hr.2 (by omega)
    refine wpList_copy_own hgd d s dT sT ho elem hu hsz g 0 dLen dCap ⟨b, o', none⟩ sLen sCap hd hs (by8 cur).toArray t hg (by8 cs) (by rw [by8_length, hcs]; exact (Nat.min_eq_left hle).symm) (fun j v hv => ?_) (by simp; omega) (by8_one _) ?_
    · have hadd : (⟨b, o', none⟩ : Addr).add j = ⟨b, o' + j, none⟩ := by unfold Addr.add; split <;> simp_all
      rw [hadd]
      exact hc j v hv
    · rw [by8_length, hcs]
      have e : ((by8 cur).toArray.toList.take 0 ++ (by8 cs ++ (by8 cur).toArray.toList.drop (0 + sLen))).toArray = (by8 (cs ++ cur.drop sLen)).toArray := by
        simp [by8_append, by8_drop]
      rw [e]
      exact h _ (hg.row _) ((Mod.refl (fun k => k = g) w).setRow (.inl rfl) _)

theorem mod_bytesWorld (w : World) (e : TypeId) (s : ByteArray) : Mod Non w (Lib.bytesWorld w e s) :=
  ⟨rfl, rfl, rfl, by rw [Lib.bytesWorld_size]; omega, fun k hk _ => Lib.bytesWorld_at_old w e s k hk⟩
theorem rd_bytesWorld (w : World) (e : TypeId) (s : ByteArray) : Rd (Lib.bytesWorld w e s) (some ⟨w.heap.size, 0, none⟩) s.size (by8 s.data.toList) := by
  have hl : s.data.toList.length = s.size := Array.length_toList
  refine ⟨by rw [by8_length, hl], fun _ => ⟨_, 0, rfl, fun j u hu => ?_⟩⟩
  rw [by8_get] at hu
  obtain ⟨b, hb, rfl⟩ := Option.map_eq_some_iff.1 hu
  obtain ⟨hj, hbj⟩ := List.getElem?_eq_some_iff.1 hb
  rw [Nat.zero_add, Lib.bytesWorld_cell w e s j (by omega), List.getD_eq_getElem?_getD, hb]
  rfl
theorem own_of_blk {w : World} {g n base : Nat} {e : TypeId} {l : List Value} (h : Blk w g e l.toArray) (hl : l.length = n) (hb : base ≤ g) (hn : n ≤ maxLen) : w.ownsRow base e 1 (.slice (some ⟨g, 0, none⟩) n n) n l :=
  ⟨by omega, .inr ⟨g, n, l.toArray, rfl, hb, h, Nat.le_refl _, hn, by simp [hl], by simp [← hl]⟩⟩

set_option maxRecDepth 100000 in
set_option maxHeartbeats 4000000 in
theorem mac_any (A : Option Addr) (n c : Nat) (k : List UInt8) (B : Option Addr) (m d : Nat) (l : List UInt8) (w : World) (h : Rd w A n (by8 k)) (hn : n ≤ 140737488354500) (g : Rd w B m (by8 l)) (hm : m ≤ 140737488354000) :
    Calls Tryz.prog 31 #[.slice A n c, .slice B m d] w fun e w' => e = .returned (.string ⟨(macB k l).toArray⟩) ∧ Mod Non w w' := by
  have hkl : k.length = n := by simpa using h.1
  have hll : l.length = m := by simpa using g.1
  have HH := Lib.hid h
  have HG := Lib.hid g
  have HKL := Lib.hid hkl
  have HLL := Lib.hid hll
  have hcs := fun (w : World) (s : ByteArray) => Lib.run_convert_string_bytes (P := Tryz.prog) w 9 27 5 s Tryz.underlying9 Tryz.underlying27 Tryz.underlying5
  have hmk := mk64
  obtain ⟨Z, hZ⟩ : ∃ Z, zero64B = Z := ⟨_, rfl⟩
  rw [hZ] at hmk
  have HZ := Lib.hid hZ
  clear h g hkl hll hZ
  go_enter Tryz.func31, Tryz.ntmps31
  by_cases h64 : 64 < n
  case' pos =>
    have d1 : decide (64 < (n : Int)) = true := decide_eq_true (by omega)
    obtain ⟨S, hS⟩ : ∃ S : ByteArray, (⟨(shaB k).toArray⟩ : ByteArray) = S := ⟨_, rfl⟩
    have hss : S.size = 32 := by
      rw [← hS]
      show (shaB k).toArray.size = 32
      rw [List.size_toArray, shaB_len]
    have HSUM := sum_any A n c k w HH.out hn
    rw [hS] at HSUM
    have HSM := Lib.hid HSUM
    have HS := Lib.hid hS
    clear hS HSUM
    go_wp2_with (first | (go_at_call 57; refine HSM.out.mono ?_; rintro e w1 ⟨rfl, hm1⟩; have HM1 := Lib.hid hm1; clear hm1) | fail)
    have hrd : Rd (Lib.bytesWorld w1 5 S) (some ⟨w1.heap.size, 0, none⟩) 32 (by8 (keyK k)) := by
      rw [keyK, if_pos (by rw [HKL.out]; exact h64), ← hss, show shaB k = S.data.toList by rw [← HS.out]]
      exact rd_bytesWorld _ _ _
    have HRK := Lib.hid hrd
    have HM2 : Hid (Mod Non w (Lib.bytesWorld w1 5 S)) := HM1.out.trans0 (mod_bytesWorld _ _ _)
    generalize Lib.bytesWorld w1 5 S = w2 at *
    generalize hkv : Value.slice (some ⟨w1.heap.size, 0, none⟩) 32 (grownCap w1 32 0 5) = KV
    have HKV : Hid (∃ A2 n2 c2, KV = .slice A2 n2 c2 ∧ n2 ≤ 64 ∧ Rd w2 A2 n2 (by8 (keyK k))) := ⟨_, _, _, hkv.symm, by omega, HRK.out⟩
    clear hrd HRK hkv hss HS HSM HM1 d1
  case' neg =>
    have d1 : decide (64 < (n : Int)) = false := decide_eq_false (by omega)
    go_wp2_with fail
    have HM2 : Hid (Mod Non w w) := Mod.refl _ _
    generalize hkv : Value.slice A n c = KV
    have HKV : Hid (∃ A2 n2 c2, KV = .slice A2 n2 c2 ∧ n2 ≤ 64 ∧ Rd w A2 n2 (by8 (keyK k))) := ⟨_, _, _, hkv.symm, by omega, by rw [keyK, if_neg (by rw [HKL.out]; exact h64)]; exact HH.out⟩
    obtain ⟨w2, hw2⟩ : ∃ w2, w2 = w := ⟨_, rfl⟩
    have HG2 := HG
    have HM22 := HM2
    rw [← hw2] at HKV
    have HM2 : Hid (Mod Non w w2) := by rw [hw2]; exact HM22.out
    rw [← hw2]
    clear hkv d1 HM22 HG2 hw2
  all_goals
    obtain ⟨A2, n2, c2, hkv, hn2, hrk⟩ := HKV.out
    clear HKV
    have HKV := Lib.hid hkv
    clear hkv
    have hrep : (List.replicate 64 (0 : UInt8)).length = 64 := List.length_replicate
    have hkl2 : (keyK k).length = n2 := by simpa using hrk.1
    have hk64 : keyK k ++ (List.replicate 64 (0 : UInt8)).drop n2 = key64 k := by
      unfold key64
      rw [List.drop_replicate, hkl2]
    have HK64 := Lib.hid hk64
    have HOLD : Hid (∀ b, blkOf A2 = some b → 0 < n2 → b < w2.heap.size) := fun b hb hp => by
      obtain ⟨b', h1, h2⟩ := hrk.lt hp
      rw [hb] at h1
      cases h1
      exact h2
    obtain ⟨wA, hwA⟩ : ∃ wA, wA = ((w2.alloc (.cells Z 5)).alloc (.cells Z 5)).drew := ⟨_, rfl⟩
    have hmA : Mod Non w2 wA := by rw [hwA]; exact (((Mod.refl Non w2).alloc _).alloc _).drew
    have HRK := Lib.hid (hrk.mod0 hmA)
    have HMA := Lib.hid (HM2.out.trans0 hmA)
    have HWA := Lib.hid hwA
    clear hrk hkl2 hk64 hmA hwA
  all_goals go_region_with (fail)
  all_goals
    rw [← HWA.out]
    obtain ⟨gi, hgi⟩ : ∃ g, g = w2.heap.size := ⟨_, rfl⟩
    obtain ⟨gj, hgj⟩ : ∃ g, g = w2.heap.size + 1 := ⟨_, rfl⟩
    have HBi : Hid (Blk wA gi 5 (by8 (List.replicate 64 0)).toArray) := by
      rw [HWA.out, hgi, ← HZ.out]
      exact ((Blk.new w2 _ _).alloc _).drew
    have HBj : Hid (Blk wA gj 5 (by8 (List.replicate 64 0)).toArray) := by
      have h9 := (Blk.new (w2.alloc (.cells zero64B 5)) 5 zero64B).drew
      rw [World.size_alloc] at h9
      rw [HWA.out, hgj, ← HZ.out]
      exact h9
    have HSZ := HM2.out.size
    have Ni : Hid (w.heap.size ≤ gi) := Lib.hid (by omega)
    have Nj : Hid (w.heap.size ≤ gj) := Lib.hid (by omega)
    have NE : Hid (gj ≠ gi) := Lib.hid (by omega)
    have NOi : Hid (0 < n2 → Off (fun k => k = gi) A2) := fun hp b hb e => by
      have := HOLD.out b hb hp
      omega
    have NOj : Hid (0 < n2 → Off (fun k => k = gj) A2) := fun hp b hb e => by
      have := HOLD.out b hb hp
      omega
    rw [← hgj, ← hgi]
    clear hgi hgj HOLD HSZ HZ HWA hmk hcs HM2
  all_goals
    first
    | (go_wp2_with (first
        | (refine wpList_copy_in rfl (.tmp 16) (.tmp 17) 27 27 rfl 5 Tryz.underlying27 hsz8 gi A2 64 64 n2 c2 rfl HKV.out (List.replicate 64 0) 5 HBi.out (keyK k) HRK.out hn2 hrep ?_
           intro w4 hb4 hm4
           have HBj4 := Lib.hid (HBj.out.mod hm4.out NE.out)
           have HRK4 := Lib.hid (HRK.out.mod hm4.out NOi.out)
           have HM4 := Lib.hid (HMA.out.trans hm4.out fun i hi => .inr (by have := Ni.out; omega)))
        | (refine wpList_copy_in rfl (.tmp 19) (.tmp 20) 27 27 rfl 5 Tryz.underlying27 hsz8 gj A2 64 64 n2 c2 rfl HKV.out (List.replicate 64 0) 5 HBj4.out (keyK k) HRK4.out hn2 hrep ?_
           intro w5 hb5 hm5
           have HBi5 := Lib.hid (hb4.out.mod hm5.out fun e => NE.out e.symm)
           have HM5 := Lib.hid (HM4.out.trans hm5.out fun i hi => .inr (by have := Nj.out; omega)))
        | fail)
       have hchk := hb5.out
       clear hchk)
    | (revert gi gj HBi HBj Ni Nj NE NOi NOj
       intro gj gi HBj HBi Nj Ni NE' NOj NOi
       have NE : Hid (gj ≠ gi) := fun e => NE'.out e.symm
       clear NE'
       go_wp2_with (first
        | (refine wpList_copy_in rfl (.tmp 16) (.tmp 17) 27 27 rfl 5 Tryz.underlying27 hsz8 gi A2 64 64 n2 c2 rfl HKV.out (List.replicate 64 0) 5 HBi.out (keyK k) HRK.out hn2 hrep ?_
           intro w4 hb4 hm4
           have HBj4 := Lib.hid (HBj.out.mod hm4.out NE.out)
           have HRK4 := Lib.hid (HRK.out.mod hm4.out NOi.out)
           have HM4 := Lib.hid (HMA.out.trans hm4.out fun i hi => .inr (by have := Ni.out; omega)))
        | (refine wpList_copy_in rfl (.tmp 19) (.tmp 20) 27 27 rfl 5 Tryz.underlying27 hsz8 gj A2 64 64 n2 c2 rfl HKV.out (List.replicate 64 0) 5 HBj4.out (keyK k) HRK4.out hn2 hrep ?_
           intro w5 hb5 hm5
           have HBi5 := Lib.hid (hb4.out.mod hm5.out fun e => NE.out e.symm)
           have HM5 := Lib.hid (HM4.out.trans hm5.out fun i hi => .inr (by have := Nj.out; omega)))
        | fail)
       have hchk := hb5.out
       clear hchk)
  all_goals
    obtain ⟨K, hK⟩ : ∃ K, key64 k = K := ⟨_, rfl⟩
    have hKl : K.length = 64 := by rw [← hK]; exact key64_len k
    have hb5' := hb5.out
    have hbi5' := HBi5.out
    rw [HK64.out, hK] at hb5' hbi5'
    have HKL64 := Lib.hid hKl
    have HKE := Lib.hid hK
    have HBi6 := Lib.hid hbi5'
    have HBj6 := Lib.hid hb5'
    clear hK hKl hb5 HBi5 hb4 HBj4 HRK4 HRK HBi HBj HMA HM4 hm4 hm5 hb5' hbi5' HK64
    go_loopw [22] (fun i wr => ∃ (j : Nat), j ≤ 64 ∧ i = .int .i64 j ∧ Hid (Blk wr gi 5 (by8 (maskTo K 54 j)).toArray) ∧ Hid (Blk wr gj 5 (by8 (maskTo K 92 j)).toArray) ∧ Hid (Mod Non w wr)) (fun i _ => 64 - (intOf i).toNat)
    case atStart => exact ⟨0, Nat.zero_le _, rfl, by rw [maskTo_zero]; exact HBi6, by rw [maskTo_zero]; exact HBj6, HM5⟩
    case round =>
      clear HBi6 HBj6 HM5
      obtain ⟨j, hj, rfl, HBi, HBj, HM⟩ := hrel
      rename World => wr
      by_cases hlt : j < 64
      · obtain ⟨x, hx⟩ : ∃ x, K[j]? = some x := ⟨_, List.getElem?_eq_getElem (by rw [HKL64.out]; exact hlt)⟩
        have ci : wr.cell? ⟨gi, j, none⟩ = some (.int .u8 (x.toNat : Int)) := by
          rw [HBi.out.cell j, List.getElem?_toArray, by8_get, maskTo_get, hx]
          rfl
        have cj0 : wr.cell? ⟨gj, j, none⟩ = some (.int .u8 (x.toNat : Int)) := by
          rw [HBj.out.cell j, List.getElem?_toArray, by8_get, maskTo_get, hx]
          rfl
        have fi := HBi.out.frozen j
        have cj : ∀ v, (wr.setCell ⟨gi, j, none⟩ v).cell? ⟨gj, j, none⟩ = some (.int .u8 (x.toNat : Int)) := fun v => ((Mod.refl (fun k => k = gi) wr).set1 j v).cell cj0 NE.out
        have fj : ∀ v, (wr.setCell ⟨gi, j, none⟩ v).frozen? ⟨gj, j, none⟩ = false := fun v => (HBj.out.mod ((Mod.refl (fun k => k = gi) wr).set1 j v) NE.out).frozen j
        have i1 : (0 : Int) ≤ (j : Int) := by omega
        have i2 : (j : Int) < 64 := by omega
        have HX := Lib.hid hx
        clear hx cj0
        go_wp2_with fail
        rw [xor54, xor92]
        have hgx := HX.out
        have hset : ∀ mk : UInt8, (by8 (maskTo K mk j)).toArray.setIfInBounds j (.int .u8 ((x ^^^ mk).toNat : Int)) = (by8 (maskTo K mk (j + 1))).toArray := fun mk => by
          rw [← maskTo_set K mk j x hgx]
          apply Array.ext'
          simp [by8, b8, List.map_set]
        have HBi2 := Lib.hid ((HBi.out.set_ j (.int .u8 ((x ^^^ 54).toNat : Int))).far (p := ⟨gj, j, none⟩) (fun e => NE.out e.symm) (.int .u8 ((x ^^^ 92).toNat : Int)))
        have HBj2 := Lib.hid ((HBj.out.far (p := ⟨gi, j, none⟩) NE.out (.int .u8 ((x ^^^ 54).toNat : Int))).set_ j (.int .u8 ((x ^^^ 92).toNat : Int)))
        have HM2' := Lib.hid ((HM.out.setCell (p := ⟨gi, j, none⟩) (.inr Ni.out) (.int .u8 ((x ^^^ 54).toNat : Int))).setCell (p := ⟨gj, j, none⟩) (.inr Nj.out) (.int .u8 ((x ^^^ 92).toNat : Int)))
        rw [hset 54] at HBi2
        rw [hset 92] at HBj2
        refine ⟨⟨j + 1, by omega, by go_num, HBi2.out, HBj2.out, HM2'.out⟩, by simp [intOf]; omega⟩
      · obtain rfl : j = 64 := by omega
        rw [maskTo_all _ _ _ (by rw [HKL64.out]; omega)] at HBi HBj
        have oi := own_of_blk (base := w.heap.size) (n := 64) HBi.out (by simp [HKL64.out]) Ni.out (by simp [maxLen])
        have oj := own_of_blk (base := w.heap.size) (n := 64) HBj.out (by simp [HKL64.out]) Nj.out (by simp [maxLen])
        have HOI := Lib.hid oi
        have HOJ := Lib.hid oj
        have HR := Lib.hid (HG.out.mod0 HM.out)
        have hbase := HM.out.size
        have hd64 : decide ((64 : Int) < 64) = false := rfl
        clear oi oj
        go_wp2_with (first
          | (at_builtin; refine wpList_app8 bt _ rfl (.tmp 39) (.tmp 40) rfl w.heap.size (.slice (some ⟨gi, 0, none⟩) 64 64) 64 _ rfl HOI.out B m d l rfl HR.out (64 + m) rfl _ rfl (by omega) hbase ?_
             intro A3 c3 w7 hc3 ho7 hg7 ha7
             have HO7 := Lib.hid ho7
             have HM7 := Lib.hid (HM.out.grown hg7 fun q hq => .inr (by have := (HOI.out.lt q hq).1; omega))
             have HJ7 := Lib.hid (own_mod HOJ.out (Mod.of_grown (S := fun q => (Value.slice (some ⟨gi, 0, none⟩) 64 64).ownBlock = some q) hg7 fun _ e => e) fun q hq e => NE.out (by
               have e1 : gj = q := by simpa [Value.ownBlock] using hq
               have e2 : gi = q := by simpa [Value.ownBlock] using e
               rw [e1, e2]))
             clear ho7 hg7 ha7)
          | fail)
        obtain ⟨S1, hS1⟩ : ∃ S : ByteArray, (⟨(shaB (K.map (· ^^^ 54) ++ l)).toArray⟩ : ByteArray) = S := ⟨_, rfl⟩
        have hs32 : S1.size = 32 := by
          rw [← hS1]
          show (shaB (K.map (· ^^^ 54) ++ l)).toArray.size = 32
          rw [List.size_toArray, shaB_len]
        have hsum := sum_any A3 (64 + m) c3 _ w7 (Rd.of_own HO7.out) (by omega)
        rw [hS1] at hsum
        refine hsum.mono ?_
        rintro e w8 ⟨rfl, hm8⟩
        have HS1 := Lib.hid hS1
        have HM8 := Lib.hid (HM7.out.trans0 hm8)
        have HJ8 := Lib.hid (own_mod HJ7.out hm8 fun _ _ h => h)
        have hbase8 := HM8.out.size
        have HS32 := Lib.hid hs32
        clear hsum hS1 hm8 hs32
        go_wp2_with (first
          | (at_builtin; refine wpList_appS _ bt Tryz.underlying9 rfl (.tmp 38) (.tmp 42) rfl w.heap.size (.slice (some ⟨gj, 0, none⟩) 64 64) 64 _ rfl HJ8.out S1 rfl 96 (by rw [HS32.out]) _ rfl (by omega) hbase8 ?_
             intro A5 c5 w9 hc5 hc5' ho9 hg9 ha9
             have HO9 := Lib.hid ho9
             have HM9 := Lib.hid (HM8.out.grown hg9 fun q hq => .inr (by have := (HJ8.out.lt q hq).1; omega))
             clear ho9 hg9 ha9)
          | fail)
        have hsum := sum_any A5 96 c5 _ w9 (Rd.of_own HO9.out) (by omega)
        have hmac : shaB (K.map (· ^^^ 92) ++ S1.data.toList) = macB k l := by
          unfold macB
          rw [HKE.out, ← HS1.out]
        rw [hmac] at hsum
        refine hsum.mono ?_
        rintro e w10 ⟨rfl, hm10⟩
        have HM10 := Lib.hid (HM9.out.trans0 hm10)
        clear hsum hmac hm10
        go_wp2_with fail
        go_ret
        exact ⟨rfl, HM10.out⟩

end Go.Proofs.YtgnpmmhpeianpaaGreatDoor
