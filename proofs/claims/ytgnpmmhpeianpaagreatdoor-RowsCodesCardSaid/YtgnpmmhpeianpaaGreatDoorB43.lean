/- sawyerref01.Sum. -/
import Derived.Test.YtgnpmmhpeianpaaGreatDoorB32
import Derived.Test.YtgnpmmhpeianpaaGreatDoorB36
namespace Go.Proofs.YtgnpmmhpeianpaaGreatDoor
open Go.RowKit

def s0Q : Array Value := #[.int .u32 1779033703, .int .u32 3144134277, .int .u32 1013904242, .int .u32 2773480762, .int .u32 1359893119, .int .u32 2600822924, .int .u32 528734635, .int .u32 1541459225]
theorem s0Q_eq : s0Q = v32s st0.list := by kernel_rfl
/-- how things stand while the bytes are laid. -/
structure SumQ (w : World) (v : Value) (q : Nat) (bs : List UInt8) (wr : World) : Prop where
  own : wr.ownsRow w.heap.size 5 1 v q (by8 bs)
  mod : Mod Non w wr
theorem SumQ.app {w wr w3 : World} {v v' : Value} {q q' : Nat} {bs bs' : List UInt8} (h : SumQ w v q bs wr) (o : Obj) (g : (wr.alloc o).grownBy w3 v.ownBlock)
    (ho : w3.ownsRow w.heap.size 5 1 v' q' (by8 bs')) : SumQ w v' q' bs' w3 :=
  ⟨ho, (h.mod.alloc o).grown g fun _ e => .inr (h.own.lt _ e).1⟩
theorem rd_mid {w : World} {b o n : Nat} {l : List UInt8} (h : Rd w (some ⟨b, o, none⟩) n (by8 l)) (i k : Nat) (hi : i + k ≤ n) : Rd w (some ⟨b, o + i, none⟩) k (by8 ((l.drop i).take k)) := by
  rcases Nat.eq_zero_or_pos k with rfl | hk
  · rw [List.take_zero]
    exact Rd.nil _ _
  have hc := h.cut (k := i) (cap := n) (by omega) (Nat.le_refl _)
  rw [if_neg (by omega), ← by8_drop] at hc
  have ht := hc.take (k := k) (by omega)
  rw [← by8_take] at ht
  have e : Option.map (fun x : Addr => x.add i) (some ⟨b, o, none⟩) = some ⟨b, o + i, none⟩ := by
    simp only [Option.map_some, Addr.add]
    split
    · rename_i e; simp_all
    · simp
  rw [e] at ht
  exact ht

theorem rd_w4Q (w : World) (t : TypeId) (x : B32) : Rd (w.alloc (.cells #[.int .u8 (IntKind.u8.wrap ((x.toNat : Int) / 16777216)), .int .u8 (IntKind.u8.wrap ((x.toNat : Int) / 65536)), .int .u8 (IntKind.u8.wrap ((x.toNat : Int) / 256)), .int .u8 (IntKind.u8.wrap (x.toNat : Int))] t)) (some ⟨w.heap.size, 0, none⟩) 4 (by8 (w4 x)) := by
  have h := rd_w4 w t x
  have hlt := x.isLt
  have h1 : IntKind.u8.wrap ((x.toNat : Int) / 16777216) = (x.toNat : Int) / 16777216 := by rw [IntKind.wrap_u8]; omega
  rw [h1, IntKind.wrap_u8, IntKind.wrap_u8, IntKind.wrap_u8]
  exact h
/-- append of bytes, as one operation of a drawn region. -/
theorem step_app8q {P : Program} {t e : TypeId} (T : ByteT P t e) (w : World) {ops : Array Oper} {o : Oper} {a : Act} {K : Act → World → Prop} {Q : Exit → Act → World → Prop} {Z : Prop} (hgd : o.guard = none) (s x : Operand)
    (ho : o.op = .call { callee := .builtin .append, args := #[s, x], argTypes := #[t, t] })
    (base : Nat) (v : Value) (n : Nat) (xs : List UInt8) (hs : a.eval s = v) (hown : w.ownsRow base e 1 v n (by8 xs))
    (A : Option Addr) (m c : Nat) (news : List UInt8) (hx : a.eval x = .slice A m c) (hr : Rd w A m (by8 news))
    (k : Nat) (hk : n + m = k) (ys : List UInt8) (hy : xs ++ news = ys)
    (h63 : k ≤ 140737488355328) (hbase : base ≤ w.heap.size)
    (h : ∀ A' c' w', k ≤ c' → w'.ownsRow base e 1 (.slice A' k c') k (by8 ys) → w.grownBy w' v.ownBlock → (blkOf A' = v.ownBlock ∨ blkOf A' = some w.heap.size) → K (a.put o.dst (.slice A' k c')) w') : if Region.wanted o (yielded ops a.tmps) = true then Oper.wp P o a w K Q else Z := by
  have hw : Region.wanted o (yielded ops a.tmps) = true := by simp [Region.wanted, hgd]
  rw [if_pos hw]
  obtain ⟨i, hi, hz, hs1, hb⟩ := T.info
  subst hk
  subst hy
  refine wp_app w s x t ho base e i (.int .u8 0) 1 T.sl hi hz hs1 hb rfl v n (by8 xs) hs hown A m c (by8 news) hx hr (by8_one _) (by simp only [maxLen]; omega) (by omega) hbase ?_
  intro v' w' hown' hg hat
  obtain ⟨A', c', rfl, hc, _⟩ := own_slice hown'
  rw [← by8_append] at hown'
  exact h A' c' w' hc hown' hg (by cases A' <;> exact hat)

set_option maxRecDepth 100000 in
set_option maxHeartbeats 4000000 in
theorem sumQ_any (A : Option Addr) (n c : Nat) (l : List UInt8) (w : World) (h : Rd w A n (by8 l)) (hn : n ≤ 140737488354500) :
    Calls Tryz.prog 58 #[.slice A n c] w fun e w' => e = .returned (.string ⟨(shaB l).toArray⟩) ∧ Mod Non w w' := by
  have hll : l.length = n := by simpa using h.1
  have HH := Lib.hid h
  have HLL := Lib.hid hll
  have HO0 : Hid (w.ownsRow w.heap.size 5 1 (.slice none 0 0) 0 (by8 [])) := ⟨rfl, .inl ⟨rfl, rfl⟩⟩
  clear h hll
  go_enter Tryz.func58, Tryz.ntmps58
  go_wp2_with (first
    | (at_builtin; refine wpList_app8 bt _ rfl (.tmp 10) (.tmp 11) rfl w.heap.size (.slice none 0 0) 0 [] rfl HO0.out A n c l rfl HH.out n (by omega) l rfl (by omega) (Nat.le_refl _) ?_
       intro A1 c1 w1 hc1 ho1 hg1 ha1
       have HS1 : Hid (SumQ w (.slice A1 n c1) n l w1) := ⟨ho1, Mod.of_grown (S := Non) hg1 fun k e => by cases e⟩
       have HO1 := Lib.hid (ho1.alloc (.cells #[b8 128] 5))
       have hz1 : w.heap.size ≤ (w1.alloc (.cells #[b8 128] 5)).heap.size := by
         have := HS1.out.mod.size
         rw [World.size_alloc]
         omega
       clear ho1 hg1 ha1)
    | (at_builtin; refine wpList_app8 bt _ rfl (.tmp 13) (.tmp 14) rfl w.heap.size (.slice A1 n c1) n l rfl HO1.out (some ⟨w1.heap.size, 0, none⟩) 1 1 [128] rfl (one_byte w1 5 128) (n + 1) rfl (l ++ [128]) rfl (by omega) hz1 ?_
       intro A2 c2 w2 hc2 ho2 hg2 ha2
       have HS3 : Hid (SumQ w (.slice A2 (n + 1) c2) (n + 1) (l ++ (128 :: List.replicate 0 0)) w2) := HS1.out.app _ hg2 ho2
       have hc3 : c2 ≤ 9223372036854775807 := by
         obtain ⟨_, _, e, _, h2⟩ := own_slice ho2
         cases e
         simpa [maxLen] using h2
       clear ho2 hg2 ha2 HO1 hz1)
    | fail)
  obtain ⟨zn, hzn⟩ : ∃ zn, zerosN n = zn := ⟨_, rfl⟩
  have hz64 : zn < 64 := by rw [← hzn]; unfold zerosN; omega
  have HZN := Lib.hid hzn
  clear hzn HS1
  go_loopw [3] (fun v wr => ∃ (k q cq : Nat) (Aq : Option Addr), k ≤ zn ∧ q = n + 1 + k ∧ v = .slice Aq q cq ∧ q ≤ cq ∧ cq ≤ 9223372036854775807 ∧ Hid (SumQ w (.slice Aq q cq) q (l ++ (128 :: List.replicate k 0)) wr)) (fun v _ => zn + n + 1 - lenV v)
  case atStart => exact ⟨0, n + 1, c2, A2, Nat.zero_le _, rfl, rfl, hc2, hc3, HS3.out⟩
  case round =>
    clear HS3 hc2 hc3
    obtain ⟨k, q, cq, Aq, hk, hq, rfl, hq1, hq2, HS⟩ := hrel
    rename World => wr
    by_cases hlt : k < zn
    · have hb : ((q : Int) % 64 != 56) = true := by
        rw [bne_iff_ne]
        have h1 := HZN.out
        unfold zerosN at h1
        omega
      have hq64 : q ≤ 140737488354600 := by omega
      have HQ := Lib.hid hq
      have hsz := HS.out.mod.size
      have HOWN := Lib.hid (HS.out.own.alloc (.cells #[b8 0] 5))
      clear hq
      go_wp2_with (at_builtin; refine wpList_app8 bt _ rfl (.tmp 20) (.tmp 21) rfl w.heap.size (.slice Aq q cq) q (l ++ (128 :: List.replicate k 0)) rfl HOWN.out (some ⟨wr.heap.size, 0, none⟩) 1 1 [0] rfl (one_byte wr 5 0) (q + 1) rfl _ rfl (by omega) (by simp; omega) ?_; intro A' c' w' hc' ho' hg' ha')
      have hc9 : c' ≤ 9223372036854775807 := by
        obtain ⟨_, _, e, _, h2⟩ := own_slice ho'
        cases e
        simpa [maxLen] using h2
      have HS' : Hid (SumQ w (.slice A' (q + 1) c') (q + 1) (l ++ (128 :: List.replicate (k + 1) 0)) w') := by
        refine HS.out.app _ hg' ?_
        rw [← replicate_snoc]
        simpa using ho'
      clear ho' hg' ha'
      go_wp2_with fail
      go_roundw
      case rel => exact ⟨k + 1, q + 1, c', A', by omega, by have := HQ.out; omega, rfl, hc', hc9, HS'.out⟩
      case measure => simp [lenV]; have := HQ.out; omega
    · have hkz : k = zn := by omega
      have hb : ((q : Int) % 64 != 56) = false := by
        have h1 := HZN.out
        unfold zerosN at h1
        simp
        omega
      have HKZ := Lib.hid hkz
      have HQ := Lib.hid hq
      clear hkz hq
      obtain ⟨P1, hP1⟩ : ∃ P1, l ++ (128 :: List.replicate k 0) = P1 := ⟨_, rfl⟩
      rw [hP1] at HS
      have HP1 := Lib.hid hP1
      have hq64 : q ≤ 140737488354600 := by have := HQ.out; omega
      clear hP1
      go_wp2_with fail
      go_loopw [3, 5] (fun v i wx => ∃ (z : Int) (q2 cq2 : Nat) (Aq2 : Option Addr), -1 ≤ z ∧ z ≤ 7 ∧ i = .int .i64 z ∧ q2 = q + (7 - z).toNat ∧ v = .slice Aq2 q2 cq2 ∧ q2 ≤ cq2 ∧ cq2 ≤ 9223372036854775807 ∧ Hid (SumQ w (.slice Aq2 q2 cq2) q2 (P1 ++ (lenB ((n : Int) * 8)).take (7 - z).toNat) wx)) (fun _ i _ => (intOf i + 1).toNat)
      case atStart => exact ⟨7, q, cq, Aq, by omega, by omega, rfl, by omega, rfl, hq1, hq2, by show SumQ _ _ _ _ _; simpa using HS.out⟩
      case round =>
        clear HS
        obtain ⟨z, q2, cq2, Aq2, hz1, hz2, rfl, hqq, rfl, hq3, hq4, HS⟩ := hrel
        rename World => wx
        by_cases hz0 : 0 ≤ z
        · obtain ⟨p, rfl⟩ := Int.eq_ofNat_of_zero_le hz0
          obtain ⟨j, hj⟩ : ∃ j, p + j = 7 := ⟨7 - p, by omega⟩
          have hjz : (7 - (p : Int)).toNat = j := by omega
          have hjz2 : (7 - ((p : Int) - 1)).toNat = j + 1 := by omega
          rw [hjz] at HS hqq
          have hbv : b8 (lowB ((n : Int) * 8 / 2 ^ (8 * p))) = .int .u8 ((n : Int) * 8 / 2 ^ (8 * p) % 256) := b8_lowB _
          have hone := one_byte wx 5 (lowB ((n : Int) * 8 / 2 ^ (8 * p)))
          rw [hbv] at hone
          have HONE := Lib.hid hone
          have HQQ := Lib.hid hqq
          have HOWN := Lib.hid (HS.out.own.alloc (.cells #[.int .u8 ((n : Int) * 8 / 2 ^ (8 * p) % 256)] 5))
          have hmx := HS.out.mod.size
          have hq5 : q2 ≤ 140737488354700 := by omega
          have i0 : (0 : Int) ≤ (p : Int) := by omega
          have i1 : (0 : Int) ≤ 8 * (p : Int) := by omega
          have i2 : 8 * (p : Int) ≤ 64 := by omega
          have v0 : IntKind.i64.wrap (8 * (p : Int)) = 8 * (p : Int) := IntWalk.i64_in _ (by constructor <;> omega)
          have t0 : (8 * (p : Int)).toNat = 8 * p := by omega
          have HJ := Lib.hid hj
          have HJ2 := Lib.hid hjz2
          clear hone hbv hqq hj hjz hjz2
          go_wp2_with (at_builtin; refine wpList_app8 bt _ rfl (.tmp 31) (.tmp 37) rfl w.heap.size (.slice Aq2 q2 cq2) q2 _ rfl HOWN.out (some ⟨wx.heap.size, 0, none⟩) 1 1 [lowB ((n : Int) * 8 / 2 ^ (8 * p))] rfl HONE.out (q2 + 1) rfl _ rfl (by omega) (by simp; omega) ?_; intro A' c' w' hc' ho' hg' ha')
          have hc9 : c' ≤ 9223372036854775807 := by
            obtain ⟨_, _, e, _, h2⟩ := own_slice ho'
            cases e
            simpa [maxLen] using h2
          have HS' : Hid (SumQ w (.slice A' (q2 + 1) c') (q2 + 1) (P1 ++ (lenB ((n : Int) * 8)).take (j + 1)) w') := by
            refine HS.out.app _ hg' ?_
            rw [← lenB_take' _ p j HJ.out, ← List.append_assoc]
            exact ho'
          clear ho' hg' ha'
          go_wp2_with fail
          go_roundw
          case rel => exact ⟨(p : Int) - 1, q2 + 1, c', A', by omega, by omega, by go_num, by rw [HJ2.out]; have := HQQ.out; omega, rfl, hc', hc9, by rw [HJ2.out]; exact HS'.out⟩
          case measure => simp [intOf] <;> omega
        · have hzm : z = -1 := by omega
          have hdz : decide (0 ≤ z) = false := decide_eq_false (by omega)
          have h8 : (7 - z).toNat = 8 := by omega
          rw [h8] at HS hqq
          have HZM := Lib.hid hzm
          have HQQ := Lib.hid hqq
          clear hzm h8 hqq
          have hpad : P1 ++ (lenB ((n : Int) * 8)).take 8 = padB l := by
            rw [List.take_of_length_le (by rw [lenB_len]; omega), ← HP1.out, HKZ.out, ← HZN.out, show ((n : Int) * 8) = 8 * (l.length : Int) by rw [HLL.out]; omega]
            unfold padB
            rw [List.append_assoc]
            rw [HLL.out]
          rw [hpad] at HS
          have hlen : (padB l).length = q2 := by
            have := (Rd.of_own HS.out.own).1
            simpa using this
          have h64 : 64 * (q2 / 64) = q2 := by rw [← hlen]; exact padB_64 l
          have hqb : q2 ≤ 140737488354700 := by have := HQQ.out; omega
          obtain ⟨PB, hPB⟩ : ∃ P, padB l = P := ⟨_, rfl⟩
          rw [hPB] at HS hlen
          obtain ⟨FIN, hFIN⟩ : ∃ F, blocksSt (q2 / 64) st0 PB = F := ⟨_, rfl⟩
          have hsha : shaB l = w4s FIN.list := by
            unfold shaB
            rw [hPB, hlen, hFIN]
          have HSHA := Lib.hid hsha
          have HFIN := Lib.hid hFIN
          have HLEN := Lib.hid hlen
          have HRA := Lib.hid (Rd.of_own HS.out.own)
          have HMA := Lib.hid HS.out.mod
          clear hpad hlen hFIN hsha hPB HS
          go_wp2_with fail
          obtain ⟨wc, hwc⟩ : ∃ wc, wc = wx.alloc (.cells s0Q 183) := ⟨_, rfl⟩
          have HRS : Hid (Rd wc (some ⟨wx.heap.size, 0, none⟩) 8 (v32l st0.list)) := by
            rw [hwc, s0Q_eq]
            exact blk_words (l := st0.list) (Blk.new wx _ _)
          have hmc : Mod Non wx wc := by rw [hwc]; exact (Mod.refl _ _).alloc _
          have HRC := Lib.hid (HRA.out.mod0 hmc)
          have HMC := Lib.hid (HMA.out.trans0 hmc)
          unfold s0Q at hwc
          rw [← hwc]
          clear hwc hmc HRA HMA
          go_loopw [6, 7] (fun v i wy => ∃ (r cs : Nat) (As : Option Addr) (st : St), i = .int .i64 ((64 * r : Nat) : Int) ∧ 64 * r ≤ q2 ∧ v = .slice As 8 cs ∧ Hid (Rd wy As 8 (v32l st.list)) ∧ Hid (Mod Non wc wy) ∧ Hid (blocksSt (q2 / 64 - r) st (PB.drop (64 * r)) = FIN)) (fun _ i _ => q2 - (intOf i).toNat)
          case atStart => exact ⟨0, 8, some ⟨wx.heap.size, 0, none⟩, st0, rfl, by omega, rfl, HRS.out, Mod.refl _ _, by show _ = _; simpa using HFIN.out⟩
          case round =>
            clear HRS HFIN
            obtain ⟨r, cs, As, st, rfl, hr, rfl, HST, HMy, HFr⟩ := hrel
            rename World => wy
            obtain ⟨p, hp⟩ : ∃ p, 64 * r = p := ⟨_, rfl⟩
            rw [hp] at HFr hr
            rw [hp]
            have HP := Lib.hid hp
            by_cases hr0 : p < q2
            · have hr6 : p + 64 ≤ q2 := by omega
              obtain ⟨m, hm⟩ : ∃ m, q2 / 64 - r = m + 1 := ⟨q2 / 64 - r - 1, by omega⟩
              have hfr := HFr.out
              rw [hm, blocksSt] at hfr
              have hr1 := HRC.out.mod0 HMy.out
              obtain ⟨b, o, rfl, _⟩ := hr1.2 (by omega)
              have hmid := rd_mid hr1 p 64 hr6
              have HTK := Lib.hid (stakeQ_any As cs st (some ⟨b, o + p, none⟩) 64 (cq2 - p) _ wy HST.out hmid (by omega) (by omega))
              have HFR := Lib.hid hfr
              have hmr : q2 / 64 - (r + 1) = m := by omega
              have HMRR := Lib.hid hmr
              have l1 : decide ((p : Int) < (q2 : Int)) = true := decide_eq_true (by omega)
              have l0 : p < q2 := hr0
              have u1 : IntKind.i64.wrap ((p : Int) + 64) = (p : Int) + 64 := IntWalk.i64_in _ (by constructor <;> omega)
              have u2 : (0 : Int) ≤ (p : Int) + 64 := by omega
              have u3 : (p : Int) + 64 ≤ (cq2 : Int) := by omega
              have u4 : (0 : Int) ≤ (p : Int) := by omega
              have u6 : (p : Int) ≤ (p : Int) + 64 := by omega
              have u7 : max ((p : Int) + 64) 0 = (p : Int) + 64 := by omega
              have u8 : ((p : Int) + 64).toNat = p + 64 := by omega
              have u9 : p + 64 - p = 64 := by omega
              have u5 : ¬ cq2 = p := by omega
              have HR0 := Lib.hid (And.intro hr0 hr6)
              clear hfr hr1 hmid hm hmr hr0 hp
              go_wp2_with (first | (go_at_call 96; refine HTK.out.mono ?_; rintro e w7 ⟨A7, c7, rfl, hc7, hr7, hm7⟩; have HR7 := Lib.hid hr7; have HM7 := Lib.hid hm7; clear hr7 hm7 hc7) | fail)
              have k1 := HR0.out
              have k2 := HP.out
              have hd7 : PB.drop (64 * (r + 1)) = (PB.drop p).drop 64 := by rw [List.drop_drop, show 64 * (r + 1) = p + 64 by omega]
              have HF7 : Hid (blocksSt (q2 / 64 - (r + 1)) (blockSt st ((PB.drop p).take 64)) (PB.drop (64 * (r + 1))) = FIN) := by
                show _ = _
                rw [HMRR.out, hd7]
                exact HFR.out
              clear hd7
              go_roundw
              case rel => exact ⟨r + 1, c7, A7, blockSt st ((PB.drop p).take 64), by rw [show 64 * (r + 1) = p + 64 by omega]; go_num, by omega, rfl, HR7.out, HMy.out.trans0 HM7.out, HF7.out⟩
              case measure => simp [intOf]; omega
            · have hpq : p = q2 := by omega
              have hst : st = FIN := by
                have h9 := HFr.out
                have h8 := HP.out
                rw [show q2 / 64 - r = 0 by omega, blocksSt] at h9
                exact h9
              have l1 : decide ((p : Int) < (q2 : Int)) = false := decide_eq_false (by omega)
              have l0 : ¬ p < q2 := hr0
              have HM9 := Lib.hid (HMC.out.trans0 HMy.out)
              obtain ⟨L, LO, rfl, hlc⟩ := HST.out.2 (by omega)
              have HSTF := Lib.hid hst
              clear hpq hst hlc
              go_wp2_with fail
              go_loopw [8, 9] (fun v i wz => ∃ (k q3 c3 : Nat) (A3 : Option Addr), k ≤ 8 ∧ i = .int .i64 k ∧ q3 = 4 * k ∧ v = .slice A3 q3 c3 ∧ q3 ≤ c3 ∧ Hid (wz.ownsRow wy.heap.size 5 1 (.slice A3 q3 c3) q3 (by8 (w4s (st.list.take k)))) ∧ Hid (Mod Non wy wz)) (fun _ i _ => 8 - (intOf i).toNat)
              case atStart => exact ⟨0, 0, 0, none, by omega, rfl, rfl, rfl, Nat.le_refl _, ⟨rfl, .inl ⟨rfl, rfl⟩⟩, Mod.refl _ _⟩
              case round =>
                obtain ⟨k, q3, c3, A3, hk, rfl, hq3', rfl, hqc, HOz, HMz⟩ := hrel
                rename World => wz
                by_cases hk8 : k < 8
                · obtain ⟨x, hx⟩ : ∃ x, st.list.getD k 0 = x := ⟨_, rfl⟩
                  have hgk : st.list[k]? = some x := by
                    rw [← hx, List.getD_eq_getElem?_getD, List.getElem?_eq_getElem (by exact hk8)]
                    rfl
                  have HSN : Hid (w4s (st.list.take k) ++ w4 x = w4s (st.list.take (k + 1))) := by
                    show _ = _
                    rw [take_snoc' _ _ _ hgk, w4s_snoc]
                  have hcx : ∀ W, Mod Non wy W → W.cell? ⟨L, LO + k, none⟩ = some (.int .u32 (x.toNat : Int)) := fun W hW => by
                    obtain ⟨L', LO', e, hc⟩ := (HST.out.mod0 hW).2 (by omega)
                    cases e
                    exact hc k (v32 x) (by rw [v32l_get, hgk]; rfl)
                  have HCX := Lib.hid hcx
                  have HK8 := Lib.hid (And.intro hk8 hq3')
                  have hmz := HMz.out.size
                  have HBASE : Hid (wy.heap.size ≤ wz.heap.size + 1) := Lib.hid (by omega)
                  have i1 : (0 : Int) ≤ (k : Int) := by omega
                  have i2 : (k : Int) < 8 := by omega
                  have i3 : k < 8 := hk8
                  clear hx hgk hcx hq3' hmz
                  go_wp2_with fail
                  go_region_held_law (fun W => W.cell? ⟨L, LO + k, none⟩ = some (.int .u32 (x.toNat : Int)))
                    (first | exact HCX.out _ HMz.out.drew | exact HCX.out _ (HMz.out.alloc _).drew | exact HCX.out _ HM9'.out | fail)
                    (first
                      | (refine step_app8q bt _ rfl (.tmp 57) (.tmp 81) rfl wy.heap.size (.slice A3 q3 c3) q3 _ rfl (by first | exact (HOz.out.alloc _).drew | exact HOz.out.drew.alloc _) (some ⟨wz.heap.size, 0, none⟩) 4 4 (w4 x) rfl (by first | exact (rd_w4Q wz _ x).drew | exact rd_w4Q wz.drew _ x) (q3 + 4) rfl _ HSN.out (by have := HK8.out; omega) (by simp only [World.size_alloc, World.size_drew]; exact HBASE.out) ?_
                         intro A9 c9 w9 hc9 ho9 hg9 ha9
                         have HO9 := Lib.hid ho9
                         have HM9' := Lib.hid ((HMz.out.alloc _).drew.grown hg9 fun q hq => .inr (HOz.out.lt q hq).1)
                         have HC9 := Lib.hid hc9
                         clear ho9 hg9 ha9 hc9)
                      | fail)
                  have hc9q := HC9.out
                  clear HCX
                  go_wp2_with fail
                  go_roundw
                  case rel => exact ⟨k + 1, q3 + 4, c9, A9, by have := HK8.out; omega, by go_num, by have := HK8.out; omega, rfl, hc9q, HO9.out, HM9'.out⟩
                  case measure => simp [intOf]; have := HK8.out; omega
                · have hk8' : k = 8 := by omega
                  have hfin : w4s (st.list.take k) = shaB l := by
                    rw [hk8', HSHA.out, ← HSTF.out]
                    rfl
                  rw [hfin] at HOz
                  have hcv := conv_str (P := Tryz.prog) wz 27 9 5 A3 q3 c3 (shaB l) Tryz.underlying27 Tryz.underlying5 Tryz.underlying9 (Rd.of_own HOz.out)
                  have hd8 : decide ((k : Int) < 8) = false := decide_eq_false (by omega)
                  obtain ⟨sv, hsv⟩ : ∃ sv : ByteArray, (⟨(shaB l).toArray⟩ : ByteArray) = sv := ⟨_, rfl⟩
                  rw [hsv] at hcv
                  have HSV := Lib.hid hsv
                  clear hk8' hfin hsv hq3'
                  go_wp2_with fail
                  go_ret
                  exact ⟨by rw [HSV.out]; rfl, HM9.out.trans0 HMz.out⟩

end Go.Proofs.YtgnpmmhpeianpaaGreatDoor

/- sawyerref01.Mac. -/
namespace Go.Proofs.YtgnpmmhpeianpaaGreatDoor
open Go.RowKit

/-- a row of bytes in a block from base on, whose cells may all be written. -/
def OwnF (w : World) (base : Nat) (v : Value) (n : Nat) (l : List UInt8) : Prop := l.length = n ∧ ((v = .slice none 0 0 ∧ n = 0) ∨ ∃ g cap, v = .slice (some ⟨g, 0, none⟩) n cap ∧ base ≤ g ∧ n ≤ cap ∧ cap ≤ maxLen ∧
  (∀ j u, (by8 l)[j]? = some u → w.cell? ⟨g, 0 + j, none⟩ = some u) ∧ ∀ j, j < cap → (w.cell? ⟨g, j, none⟩).isSome = true ∧ w.frozen? ⟨g, j, none⟩ = false)
theorem OwnF.of_own {w : World} {base n : Nat} {v : Value} {l : List UInt8} {e : TypeId} (h : w.ownsRow base e 1 v n (by8 l)) : OwnF w base v n l := by
  refine ⟨by simpa using h.1, ?_⟩
  rcases h.2 with h0 | ⟨g, cap, cur, rfl, hb, hg, hnc, hcm, hsz, ht⟩
  · exact .inl h0
  · have hbk : Blk w g e cur := hg
    refine .inr ⟨g, cap, rfl, hb, hnc, hcm, fun j u hu => ?_, fun j hj => ⟨?_, hbk.frozen j⟩⟩
    · rw [Nat.zero_add, hbk.cell j]
      rw [← ht, List.getElem?_take] at hu
      split at hu
      · simpa using hu
      · cases hu
    · rw [hbk.cell j, Array.getElem?_eq_getElem (by omega)]
      rfl
theorem OwnF.rd {w : World} {base n c : Nat} {A : Option Addr} {l : List UInt8} (h : OwnF w base (.slice A n c) n l) : Rd w A n (by8 l) := by
  refine ⟨by simpa using h.1, fun hn => ?_⟩
  rcases h.2 with ⟨_, h0⟩ | ⟨g, cap, e, _, _, _, hc, _⟩
  · omega
  · cases e
    exact ⟨g, 0, rfl, hc⟩
theorem OwnF.form {w : World} {base n : Nat} {v : Value} {l : List UInt8} (h : OwnF w base v n l) : ∃ A c, v = .slice A n c ∧ n ≤ c ∧ c ≤ maxLen := by
  rcases h.2 with ⟨rfl, rfl⟩ | ⟨g, cap, e, _, h1, h2, _⟩
  · exact ⟨none, 0, rfl, Nat.le_refl _, by simp [maxLen]⟩
  · exact ⟨_, cap, e, h1, h2⟩
theorem OwnF.bytesWorld (w : World) (e : TypeId) (s : ByteArray) (hs : s.size ≤ maxLen) : OwnF (Lib.bytesWorld w e s) w.heap.size (.slice (some ⟨w.heap.size, 0, none⟩) s.size (grownCap w s.size 0 e)) s.size s.data.toList := by
  have hsz : (Lib.bytesCells w e s).size = grownCap w s.size 0 e := by
    have := grownCap_ge w s.size 0 e
    unfold Lib.bytesCells
    rw [Array.size_append, Array.size_map, Array.size_replicate]
    show s.size + _ = _
    omega
  have hat := Lib.bytesWorld_at_new w e s
  refine ⟨Array.length_toList, .inr ⟨_, _, rfl, Nat.le_refl _, grownCap_ge _ _ _ _, grownCap_le_maxLen _ _ _ _ hs, fun j u hu => ?_, fun j hj => ⟨?_, ?_⟩⟩⟩
  · obtain ⟨g, o, h1, h2⟩ := (rd_bytesWorld w e s).2 (by
      rcases Nat.eq_zero_or_pos s.size with h0 | h0
      · have : s.data.toList = [] := List.eq_nil_of_length_eq_zero (by rw [Array.length_toList]; exact h0)
        rw [this] at hu
        simp [by8] at hu
      · exact h0)
    cases h1
    exact h2 j u hu
  · rw [cell_of_row _ _ j _ e _ hat, Array.getElem?_eq_getElem (by omega)]
    rfl
  · simp [World.frozen?, hat]
    omega
/-- one byte more. -/
theorem wpList_appF {P : Program} {t e : TypeId} (T : ByteT P t e) (w : World) {ops : Array Oper} {rest : List Oper} {o : Oper} {a : Act} {Q : Exit → Act → World → Prop} (hgd : o.guard = none) (s x : Operand)
    (ho : o.op = .call { callee := .builtin .append, args := #[s, x], argTypes := #[t, t] })
    (base : Nat) (v : Value) (n : Nat) (l : List UInt8) (hs : a.eval s = v) (hown : OwnF w base v n l)
    (ad : Addr) (c : Nat) (y : UInt8) (hx : a.eval x = .slice (some ad) 1 c) (hy : w.cell? ad = some (b8 y))
    (h63 : n + 1 ≤ 1000000000) (hbase : base ≤ w.heap.size)
    (h : ∀ A' c' w', n + 1 ≤ c' → c' ≤ 9223372036854775807 → OwnF w' base (.slice A' (n + 1) c') (n + 1) (l ++ [y]) → Mod (fun i => base ≤ i) w w' → wpList P ops Q rest (a.put o.dst (.slice A' (n + 1) c')) w') : wpList P ops Q (o :: rest) a w := by
  obtain ⟨i, hi, hz, hs1, hb⟩ := T.info
  have hmx : maxLen = 9223372036854775807 := rfl
  have hnews : ∀ j u, ([b8 y] : List Value)[j]? = some u → w.cell? (ad.add j) = some u := fun j u hu => by
    match j, hu with
    | 0, hu =>
      have e : ad.add 0 = ad := by unfold Addr.add; rfl
      rw [e, hy]
      exact hu
  have h1c : ∀ u ∈ ([b8 y] : List Value), u.oneCell' = true := by
    intro u hu
    simp only [List.mem_cons, List.not_mem_nil, or_false] at hu
    subst hu
    rfl
  have grow : ∀ v' w', w'.ownsRow w.heap.size e 1 v' (n + 1) (by8 l ++ [b8 y]) → w.grownBy w' none → wpList P ops Q rest (a.put o.dst v') w' := fun v' w' h1 h2 => by
    have e : by8 l ++ [b8 y] = by8 (l ++ [y]) := by rw [by8_append]; rfl
    rw [e] at h1
    have hf := OwnF.of_own (own_mono h1 hbase)
    obtain ⟨A', c', rfl, h3, h4⟩ := hf.form
    exact h A' c' w' h3 (by omega) hf (Mod.of_grown h2 fun k e => by cases e)
  rcases hown.2 with ⟨rfl, rfl⟩ | ⟨g, cap, rfl, hbg, hnc, hcm, hcells, hspare⟩
  · have hl : l = [] := List.eq_nil_of_length_eq_zero hown.1
    subst hl
    refine wpList_append_grows w hgd s x t ho e i (.int .u8 0) 1 1 T.sl hi hz hs1 hb rfl (by omega) none 0 0 [] hs (fun _ => ⟨rfl, rfl⟩) rfl (fun _ h => by cases h) ad 1 c [b8 y] hx rfl hnews h1c (by omega) (by omega) (by omega) ?_
    intro v' w' h1 h2
    exact grow v' w' h1 h2
  · refine wpList_append_arg w hgd s x t ho e i (.int .u8 0) 1 1 T.sl hi hz hs1 hb rfl (by omega) g 0 n cap (by8 l) hs (by rw [by8_length, hown.1]; omega) hcells ad 1 c [b8 y] hx rfl hnews h1c (fun hr j hj => ?_) (by omega) (by omega) (fun hr => ?_) (fun _ v' w' h1 h2 => grow v' w' h1 h2)
    · have hj0 : j = 0 := by simpa using hj
      subst hj0
      have := hspare n (by omega)
      simpa using this
    · have e : w.setCells g (0 + n * 1) [b8 y] = w.setCell ⟨g, n, none⟩ (b8 y) := by
        simp [World.setCells]
      rw [e]
      refine h _ cap _ hr (by omega) ⟨by simp [hown.1], .inr ⟨g, cap, rfl, hbg, hr, hcm, fun j u hu => ?_, fun j hj => ⟨?_, ?_⟩⟩⟩ ((Mod.refl (fun i => base ≤ i) w).setCell (p := ⟨g, n, none⟩) (.inl hbg) _)
      · rw [Nat.zero_add]
        rw [by8_append] at hu
        rcases Nat.lt_or_ge j n with hlt | hge
        · rw [List.getElem?_append_left (by rw [by8_length, hown.1]; exact hlt)] at hu
          rw [World.cell?_setCell_other _ _ _ _ (by intro e; cases e; omega)]
          have := hcells j u hu
          rwa [Nat.zero_add] at this
        · rw [List.getElem?_append_right (by rw [by8_length, hown.1]; exact hge), by8_length, hown.1] at hu
          have hj : j = n := by
            rcases Nat.lt_or_ge (j - n) 1 with h1 | h1
            · omega
            · rw [List.getElem?_eq_none (by simp [by8]; omega)] at hu
              cases hu
          subst hj
          rw [Nat.sub_self] at hu
          have hsome := (hspare j (by omega)).1
          obtain ⟨u0, hu0⟩ := Option.isSome_iff_exists.1 hsome
          rw [World.cell?_setCell_same w ⟨g, j, none⟩ (b8 y) hu0]
          exact hu
      · by_cases hjn : j = n
        · subst hjn
          obtain ⟨u0, hu0⟩ := Option.isSome_iff_exists.1 (hspare j hj).1
          rw [World.cell?_setCell_same w ⟨g, j, none⟩ (b8 y) hu0]
          rfl
        · rw [World.cell?_setCell_other _ _ _ _ (by intro e; cases e; exact hjn rfl)]
          exact (hspare j hj).1
      · rw [World.frozen?_setCell]
        exact (hspare j hj).2

theorem cell_byte (w : World) (e : TypeId) (y : UInt8) : (w.alloc (.cells #[b8 y] e)).cell? ⟨w.heap.size, 0, none⟩ = some (b8 y) := by
  have := (Blk.new w e #[b8 y]).cell 0
  rw [this]
  rfl
theorem replicate_snoc' (K : List UInt8) (k : Nat) : (K ++ List.replicate k (0 : UInt8)) ++ [0] = K ++ List.replicate (k + 1) 0 := by rw [List.append_assoc, replicate_snoc]
theorem OwnF.mod0 {w w' : World} {base n : Nat} {v : Value} {l : List UInt8} (h : OwnF w base v n l) (hm : Mod Non w w') : OwnF w' base v n l := by
  refine ⟨h.1, ?_⟩
  rcases h.2 with h0 | ⟨g, cap, e, h1, h2, h3, hc, hs⟩
  · exact .inl h0
  · refine .inr ⟨g, cap, e, h1, h2, h3, fun j u hu => hm.cell (hc j u hu) (fun h => h), fun j hj => ?_⟩
    obtain ⟨u0, hu0⟩ := Option.isSome_iff_exists.1 (hs j hj).1
    refine ⟨by rw [hm.cell hu0 (fun h => h)]; rfl, ?_⟩
    rw [hm.frozen (World.block_lt_of_cell? w _ hu0) (fun h => h)]
    exact (hs j hj).2
theorem OwnF.mono {w : World} {base base' n : Nat} {v : Value} {l : List UInt8} (h : OwnF w base v n l) (hb : base' ≤ base) : OwnF w base' v n l := by
  refine ⟨h.1, ?_⟩
  rcases h.2 with h0 | ⟨g, cap, e, h1, h2⟩
  · exact .inl h0
  · exact .inr ⟨g, cap, e, Nat.le_trans hb h1, h2⟩
/-- the two rows of the loop. -/
structure McM (wk : World) (I O : Value) (j : Nat) (a b : List UInt8) (wr : World) : Prop where
  inn : wr.ownsRow wk.heap.size 5 1 I j (by8 a)
  out : wr.ownsRow wk.heap.size 5 1 O j (by8 b)
  off : ∀ q, I.ownBlock = some q → O.ownBlock ≠ some q
  mod : Mod Non wk wr
theorem McM.appIn {wk wr w3 : World} {I O : Value} {j jo n' c' : Nat} {A' : Option Addr} {a b a' : List UInt8} (h : wr.ownsRow wk.heap.size 5 1 I j (by8 a)) (ho : wr.ownsRow wk.heap.size 5 1 O jo (by8 b)) (hf : ∀ q, I.ownBlock = some q → O.ownBlock ≠ some q) (hm : Mod Non wk wr) (o : Obj)
    (g : (wr.alloc o).grownBy w3 I.ownBlock) (h' : w3.ownsRow wk.heap.size 5 1 (.slice A' n' c') n' (by8 a')) (hat : blkOf A' = I.ownBlock ∨ blkOf A' = some (wr.alloc o).heap.size) :
    w3.ownsRow wk.heap.size 5 1 O jo (by8 b) ∧ (∀ q, (Value.slice A' n' c').ownBlock = some q → O.ownBlock ≠ some q) ∧ Mod Non wk w3 := by
  refine ⟨own_mod (ho.alloc o) (Mod.of_grown (S := fun k => I.ownBlock = some k) g fun _ e => e) fun q hq e => hf q e hq, fun q hq hq2 => ?_, (hm.alloc o).grown g fun q hq => .inr (h.lt q hq).1⟩
  have e1 : (Value.slice A' n' c').ownBlock = blkOf A' := by cases A' <;> rfl
  rw [e1] at hq
  rcases hat with h1 | h1
  · rw [hq] at h1
    exact hf q h1.symm hq2
  · rw [hq] at h1
    have := (ho.lt q hq2).2
    rw [World.size_alloc] at h1
    injection h1 with h1
    omega

set_option maxRecDepth 100000 in
set_option maxHeartbeats 4000000 in
theorem macQ_any (A : Option Addr) (n c : Nat) (k : List UInt8) (B : Option Addr) (m d : Nat) (l : List UInt8) (w : World) (h : Rd w A n (by8 k)) (hn : n ≤ 140737488354500) (g : Rd w B m (by8 l)) (hm : m ≤ 140737488354000) :
    Calls Tryz.prog 32 #[.slice A n c, .slice B m d] w fun e w' => e = .returned (.string ⟨(macB k l).toArray⟩) ∧ Mod Non w w' := by
  have hkl : k.length = n := by simpa using h.1
  have HH := Lib.hid h
  have HG := Lib.hid g
  have HKL := Lib.hid hkl
  have hcs := fun (w : World) (s : ByteArray) => Lib.run_convert_string_bytes (P := Tryz.prog) w 9 27 5 s Tryz.underlying9 Tryz.underlying27 Tryz.underlying5
  have HOE : Hid ((w.alloc (.cells #[] 5)).ownsRow w.heap.size 5 1 (.slice (some ⟨w.heap.size, 0, none⟩) 0 0) 0 (by8 [])) := World.ownsRow_lit (size := 1) w #[] 0 (Nat.le_refl _) (by simp [maxLen]) rfl
  have HH0 := Lib.hid (h.alloc (.cells #[] 5))
  clear h g hkl
  go_enter Tryz.func32, Tryz.ntmps32
  by_cases h64 : 64 < n
  case' pos =>
    have d1 : decide (64 < (n : Int)) = true := decide_eq_true (by omega)
    obtain ⟨S, hS⟩ : ∃ S : ByteArray, (⟨(shaB k).toArray⟩ : ByteArray) = S := ⟨_, rfl⟩
    have hss : S.size = 32 := by
      rw [← hS]
      show (shaB k).toArray.size = 32
      rw [List.size_toArray, shaB_len]
    have HS := Lib.hid hS
    have HSS := Lib.hid hss
    clear hS hss
    go_wp2_with (first
      | (at_builtin; refine wpList_app8 bt _ rfl (.tmp 9) (.tmp 10) rfl w.heap.size (.slice (some ⟨w.heap.size, 0, none⟩) 0 0) 0 [] rfl HOE.out A n c k rfl HH0.out n (by omega) k rfl (by omega) (by simp) ?_
         intro A1 c1 w1 hc1 ho1 hg1 ha1
         have HM1 := Lib.hid (((Mod.refl Non w).alloc (.cells #[] 5)).grown hg1 fun q hq => .inr (HOE.out.lt q hq).1)
         have HSUM := sumQ_any A n c k w1 (HH.out.mod0 HM1.out) hn
         rw [HS.out] at HSUM
         have HSM := Lib.hid HSUM
         clear ho1 hg1 ha1 HSUM)
      | (go_at_call 58; refine HSM.out.mono ?_; rintro e w2 ⟨rfl, hm2⟩; have HM2 := Lib.hid (HM1.out.trans0 hm2); clear hm2)
      | fail)
    have hof := OwnF.bytesWorld w2 5 S (by rw [HSS.out]; simp [maxLen])
    have hkk : keyK k = S.data.toList := by
      rw [keyK, if_pos (by rw [HKL.out]; exact h64), ← HS.out]
    rw [← hkk] at hof
    have HM3 : Hid (Mod Non w (Lib.bytesWorld w2 5 S)) := HM2.out.trans0 (mod_bytesWorld _ _ _)
    have hz2 := HM2.out.size
    have HOF := Lib.hid (hof.mono hz2)
    generalize Lib.bytesWorld w2 5 S = w3 at *
    generalize hkv : Value.slice (some ⟨w2.heap.size, 0, none⟩) S.size (grownCap w2 S.size 0 5) = KV
    rw [hkv] at HOF
    clear hof hkk hkv HSM HM1 HM2 hz2 d1
    obtain ⟨n3, hn3, HOF3⟩ : ∃ n3, n3 ≤ 64 ∧ Hid (OwnF w3 w.heap.size KV n3 (keyK k)) := ⟨S.size, by rw [HSS.out]; omega, HOF⟩
    clear HOF
  case' neg =>
    have d1 : decide (64 < (n : Int)) = false := decide_eq_false (by omega)
    go_wp2_with (first
      | (at_builtin; refine wpList_app8 bt _ rfl (.tmp 9) (.tmp 10) rfl w.heap.size (.slice (some ⟨w.heap.size, 0, none⟩) 0 0) 0 [] rfl HOE.out A n c k rfl HH0.out n (by omega) k rfl (by omega) (by simp) ?_
         intro A1 c1 w3 hc1 ho1 hg1 ha1
         have HM3 := Lib.hid (((Mod.refl Non w).alloc (.cells #[] 5)).grown hg1 fun q hq => .inr (HOE.out.lt q hq).1)
         have HOF := Lib.hid (OwnF.of_own ho1)
         clear ho1 hg1 ha1)
      | fail)
    generalize hkv : Value.slice A1 n c1 = KV
    rw [hkv] at HOF
    obtain ⟨n3, hn3, HOF3⟩ : ∃ n3, n3 ≤ 64 ∧ Hid (OwnF w3 w.heap.size KV n3 (keyK k)) := ⟨n, by omega, by rw [keyK, if_neg (by rw [HKL.out]; exact h64)]; exact HOF⟩
    clear HOF hkv d1 hc1
  all_goals
    obtain ⟨K0, hK0⟩ : ∃ K, keyK k = K := ⟨_, rfl⟩
    have hk64 : key64 k = K0 ++ List.replicate (64 - n3) 0 := by
      unfold key64
      have := HOF3.out.1
      rw [this, hK0]
    rw [hK0] at HOF3
    have HK64 := Lib.hid hk64
    clear hk64 hK0 hcs HH0 HOE
    go_loopw [5] (fun v wr => ∃ (q cq : Nat) (Aq : Option Addr), n3 ≤ q ∧ q ≤ 64 ∧ v = .slice Aq q cq ∧ Hid (OwnF wr w.heap.size (.slice Aq q cq) q (K0 ++ List.replicate (q - n3) 0)) ∧ Hid (Mod Non w wr)) (fun v _ => 64 - lenV v)
    case atStart =>
      obtain ⟨A9, c9, e9, _, _⟩ := HOF3.out.form
      refine ⟨n3, c9, A9, Nat.le_refl _, hn3, e9, ?_, HM3⟩
      rw [← e9, Nat.sub_self]
      show OwnF _ _ _ _ _
      simpa using HOF3.out
    case round =>
      clear HOF3 HM3
      obtain ⟨q, cq, Aq, hq3, hq64, rfl, HO, HM⟩ := hrel
      rename World => wr
      by_cases hlt : q < 64
      · have hz := HM.out.size
        have HBASE : Hid (w.heap.size ≤ (wr.alloc (.cells #[.int .u8 0] 5)).heap.size) := Lib.hid (by rw [World.size_alloc]; omega)
        have HOA := Lib.hid (HO.out.mod0 ((Mod.refl Non wr).alloc (.cells #[.int .u8 0] 5)))
        have HCB : Hid ((wr.alloc (.cells #[.int .u8 0] 5)).cell? ⟨wr.heap.size, 0, none⟩ = some (b8 0)) := cell_byte wr 5 0
        have HL := Lib.hid (And.intro hlt hq3)
        clear hz
        go_wp2_with (first
          | (at_builtin; refine wpList_appF bt _ rfl (.tmp 21) (.tmp 22) rfl w.heap.size (.slice Aq q cq) q _ rfl HOA.out ⟨wr.heap.size, 0, none⟩ 1 0 rfl HCB.out (by have := HL.out.1; omega) HBASE.out ?_
             intro A9 c9 w9 hc9 hc9' ho9 hm9
             have HO9 : Hid (OwnF w9 w.heap.size (.slice A9 (q + 1) c9) (q + 1) (K0 ++ List.replicate (q + 1 - n3) 0)) := by
               have e : q + 1 - n3 = (q - n3) + 1 := by have := HL.out.2; omega
               rw [e, ← replicate_snoc']
               exact ho9
             have HM9 : Hid (Mod Non w w9) := (HM.out.alloc _).trans hm9 fun i hi => .inr hi
             clear ho9 hm9)
          | fail)
        go_roundw
        case rel => exact ⟨q + 1, c9, A9, by omega, by omega, rfl, HO9.out, HM9.out⟩
        case measure => simp [lenV]; omega
      · have hqe : q = 64 := by omega
        have hd : decide ((q : Int) < 64) = false := decide_eq_false (by omega)
        obtain ⟨K, hK⟩ : ∃ K, key64 k = K := ⟨_, rfl⟩
        have hrk : Rd wr Aq q (by8 K) := by
          have := HO.out.rd
          rw [hqe, ← HK64.out, hK] at this
          rw [hqe]
          exact this
        have hKl : K.length = 64 := by rw [← hK]; exact key64_len k
        have HRK := Lib.hid hrk
        have HKE := Lib.hid hK
        have HKL64 := Lib.hid hKl
        have HQE := Lib.hid hqe
        clear hqe hK hrk hKl HO HK64
        go_wp2_with fail
        go_loopw [6, 7, 8] (fun vi vo i wx => ∃ (j ci co : Nat) (Ai Ao : Option Addr), j ≤ 64 ∧ i = .int .i64 j ∧ vi = .slice Ai j ci ∧ vo = .slice Ao j co ∧ Hid (McM wr (.slice Ai j ci) (.slice Ao j co) j ((K.take j).map (· ^^^ 54)) ((K.take j).map (· ^^^ 92)) wx)) (fun _ _ i _ => 64 - (intOf i).toNat)
        case atStart => exact ⟨0, 0, 0, none, none, by omega, rfl, rfl, rfl, ⟨⟨rfl, .inl ⟨rfl, rfl⟩⟩, ⟨rfl, .inl ⟨rfl, rfl⟩⟩, fun q hq => (by cases hq), Mod.refl _ _⟩⟩
        case round =>
          obtain ⟨j, ci, co, Ai, Ao, hj, rfl, rfl, rfl, HMC⟩ := hrel
          rename World => wx
          by_cases hj64 : j < 64
          · obtain ⟨x, hx⟩ : ∃ x, K[j]? = some x := ⟨_, List.getElem?_eq_getElem (by rw [HKL64.out]; exact hj64)⟩
            obtain ⟨KB, KO, hkb, hkc⟩ := (HRK.out.mod0 HMC.out.mod).2 (by have := HQE.out; omega)
            subst hkb
            have hcx : ∀ W, Mod Non wr W → W.cell? ⟨KB, KO + j, none⟩ = some (.int .u8 (x.toNat : Int)) := fun W hW => by
              obtain ⟨L', LO', e, hc⟩ := (HRK.out.mod0 hW).2 (by have := HQE.out; omega)
              cases e
              exact hc j (b8 x) (by rw [by8_get, hx]; rfl)
            obtain ⟨y, hy⟩ : ∃ y, x ^^^ 54 = y := ⟨_, rfl⟩
            obtain ⟨z, hz⟩ : ∃ z, x ^^^ 92 = z := ⟨_, rfl⟩
            have e54 : bits .xor .u8 (x.toNat : Int) 54 = (y.toNat : Int) := by rw [xor54, hy]
            have e92 : bits .xor .u8 (x.toNat : Int) 92 = (z.toNat : Int) := by rw [xor92, hz]
            have ht : K.take (j + 1) = K.take j ++ [x] := by rw [List.take_add_one, hx]; rfl
            have h54 : (K.take j).map (· ^^^ 54) ++ [y] = (K.take (j + 1)).map (· ^^^ 54) := by rw [ht, List.map_append, ← hy]; rfl
            have h92 : (K.take j).map (· ^^^ 92) ++ [z] = (K.take (j + 1)).map (· ^^^ 92) := by rw [ht, List.map_append, ← hz]; rfl
            have H54 := Lib.hid h54
            have H92 := Lib.hid h92
            have HCX := Lib.hid hcx
            have cx := hcx wx HMC.out.mod
            have HOI := Lib.hid (HMC.out.inn.alloc (.cells #[b8 y] 5))
            have i1 : (0 : Int) ≤ (j : Int) := by omega
            have i2 : (j : Int) < (q : Int) := by have := HQE.out; omega
            have i3 : j < q := by have := HQE.out; omega
            have hmz := HMC.out.mod.size
            have HBZ : Hid (wr.heap.size ≤ (wx.alloc (.cells #[b8 y] 5)).heap.size) := Lib.hid (by rw [World.size_alloc]; omega)
            have HJ := Lib.hid hj64
            clear hx hkc hcx hy hz ht h54 h92 hmz
            go_wp2_with (first
              | (at_builtin; refine wpList_app8 bt _ rfl (.tmp 28) (.tmp 34) rfl wr.heap.size (.slice Ai j ci) j _ rfl HOI.out (some ⟨wx.heap.size, 0, none⟩) 1 1 [y] rfl (one_byte wx 5 y) (j + 1) rfl _ H54.out (by have := HJ.out; omega) HBZ.out ?_
                 intro A8 c8 w8 hc8 ho8 hg8 ha8
                 have h3 := McM.appIn HMC.out.inn HMC.out.out HMC.out.off HMC.out.mod _ hg8 ho8 ha8
                 have HO8 := Lib.hid ho8
                 have HOO := Lib.hid (h3.1.alloc (.cells #[b8 z] 5))
                 have HOO8 := Lib.hid h3.1
                 have HF8 := Lib.hid h3.2.1
                 have HM8 := Lib.hid h3.2.2
                 have cx8 := HCX.out w8 h3.2.2
                 have HBZ8 : Hid (wr.heap.size ≤ (w8.alloc (.cells #[b8 z] 5)).heap.size) := Lib.hid (by have := HM8.out.size; rw [World.size_alloc]; omega)
                 clear ho8 hg8 ha8 h3)
              | (at_builtin; refine wpList_app8 bt _ rfl (.tmp 36) (.tmp 42) rfl wr.heap.size (.slice Ao j co) j _ rfl HOO.out (some ⟨w8.heap.size, 0, none⟩) 1 1 [z] rfl (one_byte w8 5 z) (j + 1) rfl _ H92.out (by have := HJ.out; omega) HBZ8.out ?_
                 intro A9 c9 w9 hc9 ho9 hg9 ha9
                 have h3 := McM.appIn HOO8.out HO8.out (fun q hq hq2 => HF8.out q hq2 hq) HM8.out _ hg9 ho9 ha9
                 have HMC9 : Hid (McM wr (.slice A8 (j + 1) c8) (.slice A9 (j + 1) c9) (j + 1) ((K.take (j + 1)).map (· ^^^ 54)) ((K.take (j + 1)).map (· ^^^ 92)) w9) := ⟨h3.1, ho9, fun q hq hq2 => h3.2.1 q hq2 hq, h3.2.2⟩
                 clear ho9 hg9 ha9 h3)
              | fail)
            have hj64 := HJ.out
            clear cx cx8 e54 e92 HCX
            go_roundw
            case rel => exact ⟨j + 1, c8, c9, A8, A9, by omega, by go_num, rfl, rfl, HMC9.out⟩
            case measure => simp [intOf]; omega
          · have hj64' : j = 64 := by omega
            have hd2 : decide ((j : Int) < 64) = false := decide_eq_false (by omega)
            have htk : K.take j = K := List.take_of_length_le (by rw [HKL64.out]; omega)
            rw [htk] at HMC
            have HJ := Lib.hid hj64'
            have HMW := Lib.hid (HM.out.trans0 HMC.out.mod)
            have HRB := Lib.hid (HG.out.mod0 HMW.out)
            have HOI := Lib.hid HMC.out.inn
            have hbz := HMC.out.mod.size
            clear hj64' htk
            go_wp2_with (first
              | (at_builtin; refine wpList_app8 bt _ rfl (.tmp 44) (.tmp 45) rfl wr.heap.size (.slice Ai j ci) j _ rfl HOI.out B m d l rfl HRB.out (j + m) rfl _ rfl (by have := HJ.out; omega) hbz ?_
                 intro A7 c7 w7 hc7 ho7 hg7 ha7
                 have HO7 := Lib.hid ho7
                 have HM7 := Lib.hid (HMC.out.mod.grown hg7 fun q hq => .inr (HOI.out.lt q hq).1)
                 have HJ7 := Lib.hid (own_mod HMC.out.out (Mod.of_grown (S := fun k => (Value.slice Ai j ci).ownBlock = some k) hg7 fun _ e => e) fun q hq e => HMC.out.off q e hq)
                 have hsum := sumQ_any A7 (j + m) c7 _ w7 (Rd.of_own HO7.out) (by have := HJ.out; omega)
                 obtain ⟨S1, hS1⟩ : ∃ S : ByteArray, (⟨(shaB (K.map (· ^^^ 54) ++ l)).toArray⟩ : ByteArray) = S := ⟨_, rfl⟩
                 have hs32 : S1.size = 32 := by
                   rw [← hS1]
                   show (shaB (K.map (· ^^^ 54) ++ l)).toArray.size = 32
                   rw [List.size_toArray, shaB_len]
                 rw [hS1] at hsum
                 have HSUM := Lib.hid hsum
                 have HS1 := Lib.hid hS1
                 have HS32 := Lib.hid hs32
                 clear ho7 hg7 ha7 hsum hS1 hs32)
              | fail)
            refine HSUM.out.mono ?_
            rintro e w8 ⟨rfl, hm8⟩
            have HM8 := Lib.hid (HM7.out.trans0 hm8)
            have HJ8 := Lib.hid (own_mod HJ7.out hm8 fun _ _ h => h)
            have hbz8 := HM8.out.size
            clear hm8
            go_wp2_with (first
              | (at_builtin; refine wpList_appS _ bt Tryz.underlying9 rfl (.tmp 47) (.tmp 49) rfl wr.heap.size (.slice Ao j co) j _ rfl HJ8.out S1 rfl (j + 32) (by rw [HS32.out]) _ rfl (by have := HJ.out; omega) hbz8 ?_
                 intro A5 c5 w9 hc5 hc5' ho9 hg9 ha9
                 have HO9 := Lib.hid ho9
                 have HM9 := Lib.hid (HM8.out.grown hg9 fun q hq => .inr (HJ8.out.lt q hq).1)
                 have hsum := sumQ_any A5 (j + 32) c5 _ w9 (Rd.of_own HO9.out) (by have := HJ.out; omega)
                 have hmac : shaB (K.map (· ^^^ 92) ++ S1.data.toList) = macB k l := by
                   unfold macB
                   rw [HKE.out, ← HS1.out]
                 rw [hmac] at hsum
                 have HSUM2 := Lib.hid hsum
                 clear ho9 hg9 ha9 hsum hmac)
              | fail)
            refine HSUM2.out.mono ?_
            rintro e w10 ⟨rfl, hm10⟩
            have HM10 := Lib.hid (HM.out.trans0 (HM9.out.trans0 hm10))
            clear hm10
            go_wp2_with fail
            go_ret
            exact ⟨rfl, HM10.out⟩

end Go.Proofs.YtgnpmmhpeianpaaGreatDoor
