/- sawyerref01.words. -/
import Derived.Test.YtgnpmmhpeianpaaGreatDoorB27
import Derived.Deep.RegionHeldLaw
namespace Go.Proofs.YtgnpmmhpeianpaaGreatDoor
open Go.RowKit

theorem turnQ_at (x : B32) (n : Nat) (z : Int) (hz : z = (n : Int)) (h1 : 1 ≤ n) (h2 : n ≤ 31) : Hid (∀ w, Calls Tryz.prog 166 #[.int .u32 (x.toNat : Int), .int .i64 z] w fun e w' => e = .returned (.int .u32 ((rr x n).toNat : Int)) ∧ ∃ q, w' = w.drewN q) := by
  rw [hz]
  exact fun w => turnQ_any x n w h1 h2
def wordX (b0 b1 b2 b3 : UInt8) : Int := IntKind.u32.wrap (IntKind.u32.wrap (IntKind.u32.wrap (IntKind.u32.wrap (IntKind.u32.wrap (b0.toNat : Int) * 16777216) + IntKind.u32.wrap (IntKind.u32.wrap (b1.toNat : Int) * 65536)) + IntKind.u32.wrap (IntKind.u32.wrap (b2.toNat : Int) * 256)) + IntKind.u32.wrap (b3.toNat : Int))
theorem wordQ_walk (b0 b1 b2 b3 : UInt8) : wordX b0 b1 b2 b3 = ((BitVec.ofNat 32 (b0.toNat * 16777216 + b1.toNat * 65536 + b2.toNat * 256 + b3.toNat)).toNat : Int) := by
  have h0 := b0.toNat_lt
  have h1 := b1.toNat_lt
  have h2 := b2.toNat_lt
  have h3 := b3.toNat_lt
  unfold wordX
  simp only [IntKind.wrap_u32]
  rw [BitVec.toNat_ofNat]
  omega
theorem word_rd (w : World) (t : TypeId) (b0 b1 b2 b3 : UInt8) : Rd (w.alloc (.cells #[.int .u32 (wordX b0 b1 b2 b3)] t)) (some ⟨w.heap.size, 0, none⟩) 1 (v32l [BitVec.ofNat 32 (b0.toNat * 16777216 + b1.toNat * 65536 + b2.toNat * 256 + b3.toNat)]) := by
  rw [wordQ_walk]
  exact one_word w t _

def sumX (a b c d : B32) : Int := IntKind.u32.wrap (IntKind.u32.wrap (IntKind.u32.wrap ((a.toNat : Int) + (b.toNat : Int)) + (c.toNat : Int)) + (d.toNat : Int))
theorem sumX_eq (a b c d : B32) : sumX a b c d = ((a + b + c + d).toNat : Int) := by
  unfold sumX
  rw [b32_add, b32_add, b32_add]
theorem sum_rd (w : World) (t : TypeId) (a b c d : B32) : Rd (w.alloc (.cells #[.int .u32 (sumX a b c d)] t)) (some ⟨w.heap.size, 0, none⟩) 1 (v32l [a + b + c + d]) := by
  rw [sumX_eq]
  exact one_word w t _

set_option maxRecDepth 100000 in
set_option maxHeartbeats 4000000 in
theorem wordsQ_any (A : Option Addr) (n c : Nat) (l : List UInt8) (w : World) (h : Rd w A n (by8 l)) (hn : 64 ≤ n) (hn2 : n ≤ 140737488355328) :
    Calls Tryz.prog 164 #[.slice A n c] w fun e w' => ∃ A' c', e = .returned (.slice A' 64 c') ∧ w'.ownsRow w.heap.size 183 1 (.slice A' 64 c') 64 (v32l (wordsOf l)) ∧ Mod Non w w' := by
  have hll : l.length = n := by simpa using h.1
  obtain ⟨B, O, rfl, _⟩ := h.2 (by omega)
  have HH := Lib.hid h
  have HLL := Lib.hid hll
  clear h hll
  go_enter Tryz.func164, Tryz.ntmps164
  go_wp2_with fail
  go_loopw [3, 4] (fun v i wr => ∃ (k cq : Nat) (Aq : Option Addr), k ≤ 16 ∧ i = .int .i64 k ∧ v = .slice Aq k cq ∧ Hid (wr.ownsRow w.heap.size 183 1 (.slice Aq k cq) k (v32l (words16 l k))) ∧ Hid (Mod Non w wr)) (fun _ i _ => 16 - (intOf i).toNat)
  case atStart => exact ⟨0, 0, none, by omega, rfl, rfl, ⟨rfl, .inl ⟨rfl, rfl⟩⟩, Mod.refl _ _⟩
  case round =>
    obtain ⟨k, cq, Aq, hk, rfl, rfl, HOr, HM⟩ := hrel
    rename World => wr
    by_cases hlt : k < 16
    · obtain ⟨m, hm⟩ : ∃ m, m = 4 * k := ⟨_, rfl⟩
      obtain ⟨b0, hb0⟩ : ∃ b, l[m]? = some b := ⟨_, List.getElem?_eq_getElem (by rw [HLL.out]; omega)⟩
      obtain ⟨b1, hb1⟩ : ∃ b, l[m + 1]? = some b := ⟨_, List.getElem?_eq_getElem (by rw [HLL.out]; omega)⟩
      obtain ⟨b2, hb2⟩ : ∃ b, l[m + 2]? = some b := ⟨_, List.getElem?_eq_getElem (by rw [HLL.out]; omega)⟩
      obtain ⟨b3, hb3⟩ : ∃ b, l[m + 3]? = some b := ⟨_, List.getElem?_eq_getElem (by rw [HLL.out]; omega)⟩
      have hwa : wordAt l k = BitVec.ofNat 32 (b0.toNat * 16777216 + b1.toNat * 65536 + b2.toNat * 256 + b3.toNat) := by
        unfold wordAt
        rw [← hm]
        simp only [List.getD_eq_getElem?_getD, hb0, hb1, hb2, hb3, Option.getD_some]
      have hBw : B < w.heap.size := by
        obtain ⟨b', h1, h2⟩ := HH.out.lt (by omega)
        cases h1
        exact h2
      have hcell : ∀ W, Mod Non w W → ∀ j b, l[j]? = some b → W.cell? ⟨B, O + j, none⟩ = some (.int .u8 (b.toNat : Int)) := fun W hW j b hj => by
        obtain ⟨B', O', e, hc⟩ := (HH.out.mod0 hW).2 (by omega)
        cases e
        exact hc j (b8 b) (by rw [by8_get, hj]; rfl)
      have HS : Hid (∀ W, Mod Non w W → W.cell? ⟨B, O + m, none⟩ = some (.int .u8 (b0.toNat : Int)) ∧ W.cell? ⟨B, O + (m + 1), none⟩ = some (.int .u8 (b1.toNat : Int)) ∧ W.cell? ⟨B, O + (m + 2), none⟩ = some (.int .u8 (b2.toNat : Int)) ∧ W.cell? ⟨B, O + (m + 3), none⟩ = some (.int .u8 (b3.toNat : Int))) := fun W hW => ⟨hcell W hW _ _ hb0, hcell W hW _ _ hb1, hcell W hW _ _ hb2, hcell W hW _ _ hb3⟩
      have HWA := Lib.hid hwa
      have i1 : (0 : Int) ≤ (k : Int) := by omega
      have i2 : (k : Int) < 16 := by omega
      have v0 : IntKind.i64.wrap (4 * (k : Int)) = (m : Int) := by rw [IntWalk.i64_in _ (by constructor <;> omega)]; omega
      have v1 : IntKind.i64.wrap ((m : Int) + 1) = (m : Int) + 1 := IntWalk.i64_in _ (by constructor <;> omega)
      have v2 : IntKind.i64.wrap ((m : Int) + 2) = (m : Int) + 2 := IntWalk.i64_in _ (by constructor <;> omega)
      have v3 : IntKind.i64.wrap ((m : Int) + 3) = (m : Int) + 3 := IntWalk.i64_in _ (by constructor <;> omega)
      have t1 : ((m : Int) + 1).toNat = m + 1 := by omega
      have t2 : ((m : Int) + 2).toNat = m + 2 := by omega
      have t3 : ((m : Int) + 3).toNat = m + 3 := by omega
      have j0 : m < n := by omega
      have j1 : (m : Int) < (n : Int) := by omega
      have j2 : (0 : Int) ≤ (m : Int) + 1 := by omega
      have j3 : (m : Int) + 1 < (n : Int) := by omega
      have j4 : (0 : Int) ≤ (m : Int) + 2 := by omega
      have j5 : (m : Int) + 2 < (n : Int) := by omega
      have j6 : (0 : Int) ≤ (m : Int) + 3 := by omega
      have j7 : (m : Int) + 3 < (n : Int) := by omega
      have hbase := HM.out.size
      have HBASE : Hid (w.heap.size ≤ wr.heap.size + 1) := Lib.hid (by omega)
      have HK16 := Lib.hid hlt
      clear hm hb0 hb1 hb2 hb3 hwa hcell hBw
      go_wp2_with fail
      go_region_held_law (fun w' => w'.cell? ⟨B, O + m, none⟩ = some (.int .u8 (b0.toNat : Int)) ∧ w'.cell? ⟨B, O + (m + 1), none⟩ = some (.int .u8 (b1.toNat : Int)) ∧ w'.cell? ⟨B, O + (m + 2), none⟩ = some (.int .u8 (b2.toNat : Int)) ∧ w'.cell? ⟨B, O + (m + 3), none⟩ = some (.int .u8 (b3.toNat : Int)))
        (first | exact HS.out _ HM.out.drew | exact HS.out _ (HM.out.alloc _).drew | exact HS.out _ HM9.out | fail)
        (first
          | (refine step_app32 wt _ rfl (.tmp 14) (.tmp 48) rfl w.heap.size (.slice Aq k cq) k (words16 l k) rfl (by first | exact (HOr.out.alloc _).drew | exact HOr.out.drew.alloc _) (some ⟨wr.heap.size, 0, none⟩) 1 1 [wordAt l k] rfl (by rw [HWA.out]; first | exact (word_rd wr _ b0 b1 b2 b3).drew | exact word_rd wr.drew _ b0 b1 b2 b3) (k + 1) rfl _ (words16_succ l k).symm (by have := HK16.out; omega) (by simp only [World.size_alloc, World.size_drew]; exact HBASE.out) ?_
             intro A9 c9 w9 hc9 hc9' ho9 hg9 ha9
             have HO9 := Lib.hid ho9
             have HM9 := Lib.hid ((HM.out.alloc _).drew.grown hg9 fun q hq => .inr (HOr.out.lt q hq).1)
             clear ho9 hg9 ha9)
          | fail)
      clear v0 v1 v2 v3 t1 t2 t3 j0 j1 j2 j3 j4 j5 j6 j7
      go_wp2_with fail
      go_roundw
      case rel => exact ⟨k + 1, c9, A9, by have := HK16.out; omega, by go_num, rfl, HO9.out, HM9.out⟩
      case measure => simp [intOf]; have := HK16.out; omega
    · have hk16 : k = 16 := by omega
      rw [hk16] at HOr
      have hd : decide ((k : Int) < 16) = false := decide_eq_false (by omega)
      have HK := Lib.hid hk16
      clear hk16
      go_wp2_with fail
      go_loopw [3, 5] (fun v i wx => ∃ (t cx : Nat) (Ax : Option Addr), 16 ≤ t ∧ t ≤ 64 ∧ i = .int .i64 t ∧ v = .slice Ax t cx ∧ t ≤ cx ∧ Hid (wx.ownsRow w.heap.size 183 1 (.slice Ax t cx) t (v32l (growW (t - 16) (words16 l 16)))) ∧ Hid (Mod Non w wx)) (fun _ i _ => 64 - (intOf i).toNat)
      case atStart =>
        obtain ⟨_, _, e, hx, _⟩ := own_slice HOr.out
        cases e
        exact ⟨16, cq, Aq, by omega, by omega, rfl, by rw [HK.out], hx, HOr.out, HM.out⟩
      case round =>
        clear HOr HM
        obtain ⟨t, cx, Ax, ht, ht2, rfl, rfl, htc, HO, HM⟩ := hrel
        rename World => wx
        by_cases hlt2 : t < 64
        · obtain ⟨ws, hws⟩ : ∃ ws, growW (t - 16) (words16 l 16) = ws := ⟨_, rfl⟩
          have hwl : ws.length = t := by rw [← hws, growW_len, words16_len]; omega
          have hnext : growW (t + 1 - 16) (words16 l 16) = ws ++ [nextW ws] := by
            rw [show t + 1 - 16 = (t - 16) + 1 by omega, growW, hws]
          rw [hws] at HO
          obtain ⟨p16, hp16⟩ : ∃ p, t = p + 16 := ⟨t - 16, by omega⟩
          obtain ⟨p15, hp15⟩ : ∃ p, t = p + 15 := ⟨t - 15, by omega⟩
          obtain ⟨p7, hp7⟩ : ∃ p, t = p + 7 := ⟨t - 7, by omega⟩
          obtain ⟨p2, hp2⟩ : ∃ p, t = p + 2 := ⟨t - 2, by omega⟩
          have hrd := Rd.of_own HO.out
          obtain ⟨G, GO, rfl, hcg⟩ := hrd.2 (by omega)
          have cell : ∀ q, q < t → wx.cell? ⟨G, GO + q, none⟩ = some (.int .u32 ((ws.getD q 0).toNat : Int)) := fun q hq => by
            refine hcg q _ ?_
            rw [v32l_get, List.getD_eq_getElem?_getD, List.getElem?_eq_getElem (by omega)]
            rfl
          have c16 := cell p16 (by omega)
          have c15 := cell p15 (by omega)
          have c7 := cell p7 (by omega)
          have c2 := cell p2 (by omega)
          have hnw : nextW ws = ws.getD p16 0 + ws.getD p7 0 + sl (ws.getD p15 0) 7 18 3 + sl (ws.getD p2 0) 17 19 10 := by
            unfold nextW
            rw [hwl, show t - 16 = p16 by omega, show t - 15 = p15 by omega, show t - 7 = p7 by omega, show t - 2 = p2 by omega]
            generalize ws.getD p16 0 = a
            generalize ws.getD p7 0 = b
            generalize sl (ws.getD p15 0) 7 18 3 = d
            rw [BitVec.add_assoc a d b, BitVec.add_comm d b, ← BitVec.add_assoc]
          obtain ⟨x16, hx16⟩ : ∃ x, ws.getD p16 0 = x := ⟨_, rfl⟩
          obtain ⟨x15, hx15⟩ : ∃ x, ws.getD p15 0 = x := ⟨_, rfl⟩
          obtain ⟨x7, hx7⟩ : ∃ x, ws.getD p7 0 = x := ⟨_, rfl⟩
          obtain ⟨x2, hx2⟩ : ∃ x, ws.getD p2 0 = x := ⟨_, rfl⟩
          rw [hx16] at c16 hnw
          rw [hx15] at c15 hnw
          rw [hx7] at c7 hnw
          rw [hx2] at c2 hnw
          have HNW := Lib.hid hnw
          have HNX := Lib.hid hnext
          have HWL := Lib.hid hwl
          have v16 : IntKind.i64.wrap ((t : Int) - 16) = (p16 : Int) := by rw [IntWalk.i64_in _ (by constructor <;> omega)]; omega
          have v15 : IntKind.i64.wrap ((t : Int) - 15) = (p15 : Int) := by rw [IntWalk.i64_in _ (by constructor <;> omega)]; omega
          have v7 : IntKind.i64.wrap ((t : Int) - 7) = (p7 : Int) := by rw [IntWalk.i64_in _ (by constructor <;> omega)]; omega
          have v2 : IntKind.i64.wrap ((t : Int) - 2) = (p2 : Int) := by rw [IntWalk.i64_in _ (by constructor <;> omega)]; omega
          have q16 : p16 < t := by omega
          have q15 : p15 < t := by omega
          have q7 : p7 < t := by omega
          have q2 : p2 < t := by omega
          have r16 : (p16 : Int) < (t : Int) := by omega
          have r15 : (p15 : Int) < (t : Int) := by omega
          have r7 : (p7 : Int) < (t : Int) := by omega
          have r2 : (p2 : Int) < (t : Int) := by omega
          have i1 : (0 : Int) ≤ (t : Int) := by omega
          have i2 : (t : Int) < 64 := by omega
          have s0 := sl_walk x15 7 18 3 8 rfl
          have s1 := sl_walk x2 17 19 10 1024 rfl
          have HL := Lib.hid (And.intro hlt2 (And.intro ht htc))
          clear hnw hnext hwl hws hx16 hx15 hx7 hx2 cell hp16 hp7 hp15 hp2 hrd hcg hlt2
          have H7 := turnQ_at x15 7 7 rfl (by omega) (by omega)
          have H18 := turnQ_at x15 18 18 rfl (by omega) (by omega)
          have H17 := turnQ_at x2 17 17 rfl (by omega) (by omega)
          have H19 := turnQ_at x2 19 19 rfl (by omega) (by omega)
          go_wp2_with (first
            | (go_at_call 166; with_reducible refine (H7.out _).mono ?_; rintro e wy ⟨rfl, n1, rfl⟩)
            | (go_at_call 166; with_reducible refine (H18.out _).mono ?_; rintro e wy ⟨rfl, n2, rfl⟩)
            | (go_at_call 166; with_reducible refine (H17.out _).mono ?_; rintro e wy ⟨rfl, n3, rfl⟩)
            | (go_at_call 166; with_reducible refine (H19.out _).mono ?_; rintro e wy ⟨rfl, n4, rfl⟩)
            | fail)
          generalize hwq : World.drewN wx _ = wq
          have HOq : Hid (wq.ownsRow w.heap.size 183 1 (.slice (some ⟨G, GO, none⟩) t cx) t (v32l ws)) := by rw [← hwq]; exact HO.out
          have HMq : Hid (Mod Non w wq) := by rw [← hwq]; exact HM.out.drewN _
          have d16 : wq.cell? ⟨G, GO + p16, none⟩ = some (.int .u32 (x16.toNat : Int)) := by rw [← hwq]; exact c16
          have d7 : wq.cell? ⟨G, GO + p7, none⟩ = some (.int .u32 (x7.toNat : Int)) := by rw [← hwq]; exact c7
          have hbase := HMq.out.size
          have HBASE : Hid (w.heap.size ≤ wq.heap.size + 1) := Lib.hid (by omega)
          clear hwq c16 c15 c7 c2 HO HM H7 H18 H17 H19 s0 s1 hbase
          go_region_law
            (first
              | (refine step_app32 wt _ rfl (.tmp 80) (.tmp 96) rfl w.heap.size (.slice (some ⟨G, GO, none⟩) t cx) t ws rfl (by first | exact (HOq.out.alloc _).drew | exact HOq.out.drew.alloc _) (some ⟨wq.heap.size, 0, none⟩) 1 1 [nextW ws] rfl (by rw [HNW.out]; first | exact (sum_rd wq _ _ _ _ _).drew | exact sum_rd wq.drew _ _ _ _ _) (t + 1) rfl _ rfl (by have := HL.out.1; omega) (by simp only [World.size_alloc, World.size_drew]; exact HBASE.out) ?_
                 intro A9 c9 w9 hc9 hc9' ho9 hg9 ha9
                 have HO9 := Lib.hid ho9
                 have HM9 := Lib.hid ((HMq.out.alloc _).drew.grown hg9 fun q hq => .inr (HOq.out.lt q hq).1)
                 have HC9 := Lib.hid hc9
                 clear ho9 hg9 ha9 hc9)
              | fail)
          all_goals
            have l1 := HL.out.1
            have l2 := HL.out.2.1
            have hc9q := HC9.out
            rw [← HNX.out] at HO9
            clear v16 v15 v7 v2 d16 d7
            go_wp2_with fail
            go_roundw
            case rel => exact ⟨t + 1, c9, A9, by omega, by omega, by go_num, rfl, hc9q, HO9.out, HM9.out⟩
            case measure => simp [intOf]; omega
        · obtain rfl : t = 64 := by omega
          have hwo : growW (64 - 16) (words16 l 16) = wordsOf l := rfl
          rw [hwo] at HO
          go_wp2_with fail
          go_ret
          exact ⟨Ax, cx, rfl, HO.out, HM.out⟩

end Go.Proofs.YtgnpmmhpeianpaaGreatDoor

/- sawyerref01.take. -/
namespace Go.Proofs.YtgnpmmhpeianpaaGreatDoor
open Go.RowKit

theorem quiet_addq {P : Program} {f : FuncId} {args : Array Value} {w : World} {q n : Nat} {v : Value}
    (h : Calls P f args (w.drewN (q + n)) fun e w' => e = .returned v ∧ ∃ m, w' = (w.drewN (q + n)).drewN m) : Calls P f args (w.drewN (q + n)) fun e w'' => e = .returned v ∧ ∃ m, w'' = w.drewN (q + m) :=
  h.mono fun _ _ ⟨he, m, hm⟩ => ⟨he, n + m, by rw [hm, World.drewN_drewN, Nat.add_assoc]⟩
theorem quiet_add0 {P : Program} {f : FuncId} {args : Array Value} {w : World} {n : Nat} {v : Value}
    (h : Calls P f args (w.drewN n) fun e w' => e = .returned v ∧ ∃ m, w' = (w.drewN n).drewN m) : Calls P f args (w.drewN n) fun e w'' => e = .returned v ∧ ∃ m, w'' = w.drewN m :=
  h.mono fun _ _ ⟨he, m, hm⟩ => ⟨he, n + m, by rw [hm, World.drewN_drewN]⟩
theorem sg_walk (x : B32) (a b c : Nat) : bits .xor .u32 (bits .xor .u32 ((rr x a).toNat : Int) ((rr x b).toNat : Int)) ((rr x c).toNat : Int) = ((sg x a b c).toNat : Int) := by
  rw [b32_xor, b32_xor]
  rfl
theorem stX_raw (s : St) (k w : B32) : IntKind.u32.wrap (IntKind.u32.wrap (IntKind.u32.wrap (IntKind.u32.wrap ((s.h.toNat : Int) + ((sg s.e 6 11 25).toNat : Int)) + bits BinOp.xor IntKind.u32 (bits BinOp.and IntKind.u32 (s.e.toNat : Int) (s.f.toNat : Int)) (bits BinOp.and IntKind.u32 (bits BinOp.xor IntKind.u32 IntKind.u32.max (s.e.toNat : Int)) (s.g.toNat : Int))) + (k.toNat : Int)) + (w.toNat : Int)) = ((stX s k w).toNat : Int) := by
  rw [b32_and, b32_notm, b32_and, b32_xor, b32_add, b32_add, b32_add, b32_add]
  rfl
theorem stY_raw (s : St) : IntKind.u32.wrap (((sg s.a 2 13 22).toNat : Int) + bits BinOp.xor IntKind.u32 (bits BinOp.xor IntKind.u32 (bits BinOp.and IntKind.u32 (s.a.toNat : Int) (s.b.toNat : Int)) (bits BinOp.and IntKind.u32 (s.a.toNat : Int) (s.c.toNat : Int))) (bits BinOp.and IntKind.u32 (s.b.toNat : Int) (s.c.toNat : Int))) = ((stY s).toNat : Int) := by
  rw [b32_and, b32_and, b32_and, b32_xor, b32_xor, b32_add]
  rfl
theorem unsig : (if IntKind.u32.signed = true then (-1 : Int) else IntKind.u32.max) = IntKind.u32.max := if_neg (by decide)
theorem st_cells {w : World} {L LO : Nat} {s : St} (hc : ∀ (j : Nat) (u : Value), (v32l s.list)[j]? = some u → w.cell? ⟨L, LO + j, none⟩ = some u) :
    w.cell? ⟨L, LO, none⟩ = some (.int .u32 (s.a.toNat : Int)) ∧ w.cell? ⟨L, LO + 1, none⟩ = some (.int .u32 (s.b.toNat : Int)) ∧ w.cell? ⟨L, LO + 2, none⟩ = some (.int .u32 (s.c.toNat : Int)) ∧ w.cell? ⟨L, LO + 3, none⟩ = some (.int .u32 (s.d.toNat : Int)) ∧
    w.cell? ⟨L, LO + 4, none⟩ = some (.int .u32 (s.e.toNat : Int)) ∧ w.cell? ⟨L, LO + 5, none⟩ = some (.int .u32 (s.f.toNat : Int)) ∧ w.cell? ⟨L, LO + 6, none⟩ = some (.int .u32 (s.g.toNat : Int)) ∧ w.cell? ⟨L, LO + 7, none⟩ = some (.int .u32 (s.h.toNat : Int)) :=
  ⟨hc 0 _ rfl, hc 1 _ rfl, hc 2 _ rfl, hc 3 _ rfl, hc 4 _ rfl, hc 5 _ rfl, hc 6 _ rfl, hc 7 _ rfl⟩
theorem blk_words {w : World} {g : Nat} {t : TypeId} {l : List B32} (h : Blk w g t (v32s l)) : Rd w (some ⟨g, 0, none⟩) l.length (v32l l) := by
  refine ⟨v32l_len l, fun _ => ⟨g, 0, rfl, fun j u hu => ?_⟩⟩
  rw [Nat.zero_add, h.cell j]
  show ((l.map v32).toArray)[j]? = some u
  rw [List.getElem?_toArray]
  exact hu

set_option maxRecDepth 100000 in
set_option maxHeartbeats 4000000 in
theorem stakeQ_any (A : Option Addr) (cA : Nat) (s : St) (B : Option Addr) (n d : Nat) (l : List UInt8) (w : World) (hs : Rd w A 8 (v32l s.list)) (h : Rd w B n (by8 l)) (hn : 64 ≤ n) (hn2 : n ≤ 140737488355328) :
    Calls Tryz.prog 96 #[.slice A 8 cA, .slice B n d] w fun e w' => ∃ A' c', e = .returned (.slice A' 8 c') ∧ 8 ≤ c' ∧ Rd w' A' 8 (v32l (blockSt s l).list) ∧ Mod Non w w' := by
  obtain ⟨SA, SO, rfl, hcs⟩ := hs.2 (by omega)
  have HSR := Lib.hid hs
  have HW := Lib.hid (wordsQ_any B n d l w h hn hn2)
  obtain ⟨ws, hws⟩ : ∃ ws, wordsOf l = ws := ⟨_, rfl⟩
  have hwl : ws.length = 64 := by rw [← hws]; exact wordsOf_len l
  rw [hws] at HW
  have HWS := Lib.hid hws
  have HWL := Lib.hid hwl
  clear hs h hcs hws hwl
  go_enter Tryz.func96, Tryz.ntmps96
  go_wp2_with (first
    | (go_at_call 164; refine HW.out.mono ?_; rintro e w1 ⟨Aw, cw, rfl, how, hm1⟩; have HRW := Lib.hid (Rd.of_own how); have HM1 := Lib.hid hm1; clear how hm1)
    | (go_at_call 165; refine (tableQ_any w1).mono ?_; rintro e w2 ⟨rfl, hbk, hm2⟩; have HRK := Lib.hid (blk_words hbk); have HRW2 := Lib.hid (HRW.out.mod0 hm2); have HM2 := Lib.hid (HM1.out.trans0 hm2)
       have HOE : Hid ((w2.alloc (.cells #[] 183)).ownsRow w2.heap.size 183 1 (.slice (some ⟨w2.heap.size, 0, none⟩) 0 0) 0 (v32l [])) := World.ownsRow_lit (size := 1) w2 #[] 0 (Nat.le_refl _) (by simp [maxLen]) rfl
       have HSR2 := Lib.hid ((HSR.out.mod0 HM2.out).alloc (.cells #[] 183))
       clear hbk hm2)
    | (at_builtin; refine wpList_app32 wt _ rfl (.tmp 18) (.tmp 19) rfl w2.heap.size (.slice (some ⟨w2.heap.size, 0, none⟩) 0 0) 0 [] rfl HOE.out (some ⟨SA, SO, none⟩) 8 cA s.list rfl HSR2.out 8 rfl s.list rfl (by omega) (by simp) ?_
       intro A3 c3 w3 hc3 hc3' ho3 hg3 ha3
       have HRL := Lib.hid (Rd.of_own ho3)
       have hmg : Mod Non w2 w3 := ((Mod.refl Non w2).alloc _).grown hg3 fun q hq => .inr (HOE.out.lt q hq).1
       have HMG := Lib.hid hmg
       clear ho3 hg3 ha3 hmg)
    | fail)
  have HRK3 := Lib.hid (HRK.out.mod0 HMG.out)
  have HRW3 := Lib.hid (HRW2.out.mod0 HMG.out)
  have HM3 := Lib.hid (HM2.out.trans0 HMG.out)
  have HRL0 : Hid (Rd w3 A3 8 (v32l (runSt ws s 0).list)) := HRL.out
  clear HRK HRW HRW2 HM1 HM2 HMG HOE HSR2 HRL
  go_loopw [7, 8] (fun v i wr => ∃ (t cl : Nat) (Al : Option Addr), t ≤ 64 ∧ i = .int .i64 t ∧ v = .slice Al 8 cl ∧ 8 ≤ cl ∧ Hid (Rd wr Al 8 (v32l (runSt ws s t).list)) ∧ Hid (Mod Non w3 wr)) (fun _ i _ => 64 - (intOf i).toNat)
  case atStart => exact ⟨0, c3, A3, by omega, rfl, rfl, hc3, HRL0, Mod.refl _ _⟩
  case round =>
    obtain ⟨t, cl, Al, ht, rfl, rfl, hcl, HL, HM⟩ := hrel
    rename World => wr
    by_cases hlt : t < 64
    · have hst : runSt ws s (t + 1) = stStep (runSt ws s t) (kTab.getD t 0) (ws.getD t 0) := rfl
      generalize runSt ws s t = st at *
      obtain ⟨sa, sb, sc, sd, se, sf, sgg, sh⟩ := st
      obtain ⟨L, LO, rfl, hlc⟩ := HL.out.2 (by omega)
      obtain ⟨KB, KO, hke, hkc⟩ := (HRK3.out.mod0 HM.out).2 (by rw [kTab_len]; omega)
      cases hke
      obtain ⟨WB, WO, rfl, hwc⟩ := (HRW3.out.mod0 HM.out).2 (by omega)
      obtain ⟨kt, hkt⟩ : ∃ kt, kTab.getD t 0 = kt := ⟨_, rfl⟩
      obtain ⟨wt', hwt⟩ : ∃ wt, ws.getD t 0 = wt := ⟨_, rfl⟩
      have hkb : wr.cell? ⟨w1.heap.size, 0 + t, none⟩ = some (.int .u32 (kt.toNat : Int)) := hkc t _ (by
        rw [v32l_get, ← hkt, List.getD_eq_getElem?_getD, List.getElem?_eq_getElem (by rw [kTab_len]; exact hlt)]
        rfl)
      have hwb : wr.cell? ⟨WB, WO + t, none⟩ = some (.int .u32 (wt'.toNat : Int)) := hwc t _ (by
        rw [v32l_get, ← hwt, List.getD_eq_getElem?_getD, List.getElem?_eq_getElem (by rw [HWL.out]; exact hlt)]
        rfl)
      rw [Nat.zero_add] at hkb
      rw [hkt, hwt] at hst
      have HST := Lib.hid hst
      obtain ⟨l0, l1, l2, l3, l4, l5, l6, l7⟩ := st_cells hlc
      have H6 := turnQ_at se 6 6 rfl (by omega) (by omega)
      have H11 := turnQ_at se 11 11 rfl (by omega) (by omega)
      have H25 := turnQ_at se 25 25 rfl (by omega) (by omega)
      have H2 := turnQ_at sa 2 2 rfl (by omega) (by omega)
      have H13 := turnQ_at sa 13 13 rfl (by omega) (by omega)
      have H22 := turnQ_at sa 22 22 rfl (by omega) (by omega)
      have i1 : (0 : Int) ≤ (t : Int) := by omega
      have i2 : (t : Int) < 64 := by omega
      have i3 : t < 64 := hlt
      have g6 := sg_walk se 6 11 25
      have g2 := sg_walk sa 2 13 22
      clear hst hkt hwt hlc hkc hwc
      go_wp2_with fail
      refine wp_region_quiet_lit (by kernel_rfl) (by kernel_rfl) ?_
      iterate 4 (quiet_step (fail))
      refine wpQuiet_step (fun K hK => ?_)
      go_simp
      apply Exists.intro
      refine ⟨fun _ => ?_, hK _ ?_⟩
      go_at_call 166
      exact quiet_add0 (H6.out _)
      clear hK K
      iterate 1 (quiet_step (fail))
      refine wpQuiet_step (fun K hK => ?_)
      go_simp
      apply Exists.intro
      refine ⟨fun _ => ?_, hK _ ?_⟩
      go_at_call 166
      exact quiet_add0 (H11.out _)
      clear hK K
      iterate 2 (quiet_step (fail))
      refine wpQuiet_step (fun K hK => ?_)
      go_simp
      apply Exists.intro
      refine ⟨fun _ => ?_, hK _ ?_⟩
      go_at_call 166
      exact quiet_add0 (H25.out _)
      clear hK K
      repeat (quiet_step (fail))
      refine wpQuiet_nil ?_
      rintro _ ⟨nq, rfl⟩
      rw [unsig]
      have hX := stX_raw ⟨sa, sb, sc, sd, se, sf, sgg, sh⟩ kt wt'
      simp only at hX
      rw [hX]
      obtain ⟨X, hX1⟩ : ∃ X, stX ⟨sa, sb, sc, sd, se, sf, sgg, sh⟩ kt wt' = X := ⟨_, rfl⟩
      rw [hX1]
      have HX1 := Lib.hid hX1
      clear hX hX1
      generalize hwq : World.drewN wr nq = wq
      have HWQ : Hid (∃ q, wq = wr.drewN q) := ⟨nq, hwq.symm⟩
      have j0 : wq.cell? ⟨L, LO, none⟩ = some (.int .u32 (sa.toNat : Int)) := by rw [← hwq]; exact l0
      have j1 : wq.cell? ⟨L, LO + 1, none⟩ = some (.int .u32 (sb.toNat : Int)) := by rw [← hwq]; exact l1
      have j2 : wq.cell? ⟨L, LO + 2, none⟩ = some (.int .u32 (sc.toNat : Int)) := by rw [← hwq]; exact l2
      clear hwq hkb hwb g6 H6 H11 H25
      go_wp2_with fail
      refine wp_region_quiet_lit (by kernel_rfl) (by kernel_rfl) ?_
      iterate 1 (quiet_step (fail))
      refine wpQuiet_step (fun K hK => ?_)
      go_simp
      apply Exists.intro
      refine ⟨fun _ => ?_, hK _ ?_⟩
      go_at_call 166
      exact quiet_add0 (H2.out _)
      clear hK K
      iterate 1 (quiet_step (fail))
      refine wpQuiet_step (fun K hK => ?_)
      go_simp
      apply Exists.intro
      refine ⟨fun _ => ?_, hK _ ?_⟩
      go_at_call 166
      exact quiet_add0 (H13.out _)
      clear hK K
      iterate 2 (quiet_step (fail))
      refine wpQuiet_step (fun K hK => ?_)
      go_simp
      apply Exists.intro
      refine ⟨fun _ => ?_, hK _ ?_⟩
      go_at_call 166
      exact quiet_add0 (H22.out _)
      clear hK K
      repeat (quiet_step (fail))
      refine wpQuiet_nil ?_
      rintro _ ⟨np, rfl⟩
      have hY := stY_raw ⟨sa, sb, sc, sd, se, sf, sgg, sh⟩
      simp only at hY
      rw [hY]
      obtain ⟨Y, hY1⟩ : ∃ Y, stY ⟨sa, sb, sc, sd, se, sf, sgg, sh⟩ = Y := ⟨_, rfl⟩
      rw [hY1]
      have HY1 := Lib.hid hY1
      clear hY hY1 j0 j1 j2 g2 H2 H13 H22
      go_wp2_with fail
      generalize hwz : World.drewN wq np = wz
      have hzz : ∃ q, wz = wr.drewN q := by
        obtain ⟨q, hq⟩ := HWQ.out
        exact ⟨q + np, by rw [← hwz, hq, World.drewN_drewN]⟩
      have HMz : Hid (Mod Non w3 wz) := by
        obtain ⟨q, rfl⟩ := hzz
        exact HM.out.drewN q
      have HSL : Hid (∀ W, Mod Non wz W → W.cell? ⟨L, LO, none⟩ = some (.int .u32 (sa.toNat : Int)) ∧ W.cell? ⟨L, LO + 1, none⟩ = some (.int .u32 (sb.toNat : Int)) ∧ W.cell? ⟨L, LO + 2, none⟩ = some (.int .u32 (sc.toNat : Int)) ∧ W.cell? ⟨L, LO + 3, none⟩ = some (.int .u32 (sd.toNat : Int)) ∧ W.cell? ⟨L, LO + 4, none⟩ = some (.int .u32 (se.toNat : Int)) ∧ W.cell? ⟨L, LO + 5, none⟩ = some (.int .u32 (sf.toNat : Int)) ∧ W.cell? ⟨L, LO + 6, none⟩ = some (.int .u32 (sgg.toNat : Int))) := fun W hW => by
        obtain ⟨q, rfl⟩ := hzz
        exact ⟨hW.cell l0 (fun h => h), hW.cell l1 (fun h => h), hW.cell l2 (fun h => h), hW.cell l3 (fun h => h), hW.cell l4 (fun h => h), hW.cell l5 (fun h => h), hW.cell l6 (fun h => h)⟩
      have HLT := Lib.hid hlt
      clear hwz hzz HWQ l0 l1 l2 l3 l4 l5 l6 l7 i1 i2 i3 hlt
      go_region_held3 (fun W => W.cell? ⟨L, LO, none⟩ = some (.int .u32 (sa.toNat : Int)) ∧ W.cell? ⟨L, LO + 1, none⟩ = some (.int .u32 (sb.toNat : Int)) ∧ W.cell? ⟨L, LO + 2, none⟩ = some (.int .u32 (sc.toNat : Int)) ∧ W.cell? ⟨L, LO + 3, none⟩ = some (.int .u32 (sd.toNat : Int)) ∧ W.cell? ⟨L, LO + 4, none⟩ = some (.int .u32 (se.toNat : Int)) ∧ W.cell? ⟨L, LO + 5, none⟩ = some (.int .u32 (sf.toNat : Int)) ∧ W.cell? ⟨L, LO + 6, none⟩ = some (.int .u32 (sgg.toNat : Int))) (first | exact HSL.out _ (Mod.refl _ _).drew | exact HSL.out _ ((Mod.refl _ _).alloc _).drew | exact HSL.out _ ((Mod.refl _ _).drew.alloc _)) (first | fail)
      simp only [b32_add]
      obtain ⟨wn, hwn⟩ : ∃ wn, wn = (wz.alloc (.cells #[.int .u32 ((X + Y).toNat : Int), .int .u32 (sa.toNat : Int), .int .u32 (sb.toNat : Int), .int .u32 (sc.toNat : Int), .int .u32 ((sd + X).toNat : Int), .int .u32 (se.toNat : Int), .int .u32 (sf.toNat : Int), .int .u32 (sgg.toNat : Int)] 183)).drew := ⟨_, rfl⟩
      have hst2 : runSt ws s (t + 1) = ⟨X + Y, sa, sb, sc, sd + X, se, sf, sgg⟩ := by
        rw [HST.out, ← HX1.out, ← HY1.out]
        rfl
      have HLn : Hid (Rd wn (some ⟨wz.heap.size, 0, none⟩) 8 (v32l (runSt ws s (t + 1)).list)) := by
        rw [hst2, hwn]
        exact (blk_words (l := [X + Y, sa, sb, sc, sd + X, se, sf, sgg]) (Blk.new wz _ _)).drew
      have HMn : Hid (Mod Non w3 wn) := by rw [hwn]; exact (HMz.out.alloc _).drew
      rw [← hwn]
      have hlt := HLT.out
      clear hwn hst2 HSL
      go_wp2_with fail
      go_roundw
      case rel => exact ⟨t + 1, 8, some ⟨wz.heap.size, 0, none⟩, by omega, by go_num, rfl, by omega, HLn.out, HMn.out⟩
      case measure => simp [intOf]; omega
    · have ht64 : t = 64 := by omega
      have hdt : decide ((t : Int) < 64) = false := decide_eq_false (by omega)
      obtain ⟨r, hr⟩ : ∃ r, runSt ws s 64 = r := ⟨_, rfl⟩
      rw [ht64, hr] at HL
      clear ht64
      have hfin : blockSt s l = s.plus r := by
        unfold blockSt
        rw [HWS.out, hr]
      have HFIN := Lib.hid hfin
      have HMW := Lib.hid (HM3.out.trans0 HM.out)
      have HSR9 := Lib.hid (HSR.out.mod0 HMW.out)
      clear hr hfin
      go_wp2_with fail
      go_loopw [13, 14] (fun v i wy => ∃ (j cj : Nat) (Aj : Option Addr), j ≤ 8 ∧ i = .int .i64 j ∧ v = .slice Aj j cj ∧ j ≤ cj ∧ Hid (wy.ownsRow wr.heap.size 183 1 (.slice Aj j cj) j (v32l ((s.plus r).list.take j))) ∧ Hid (Mod Non wr wy)) (fun _ i _ => 8 - (intOf i).toNat)
      case atStart => exact ⟨0, 0, none, by omega, rfl, rfl, by omega, ⟨rfl, .inl ⟨rfl, rfl⟩⟩, Mod.refl _ _⟩
      case round =>
        obtain ⟨j, cj, Aj, hj, rfl, rfl, hjc, HO, HMy⟩ := hrel
        rename World => wy
        by_cases hlt8 : j < 8
        · obtain ⟨x, hx⟩ : ∃ x, s.list.getD j 0 = x := ⟨_, rfl⟩
          obtain ⟨y, hy⟩ : ∃ y, r.list.getD j 0 = y := ⟨_, rfl⟩
          obtain ⟨L, LO, rfl, hlc⟩ := (HL.out.mod0 HMy.out).2 (by omega)
          obtain ⟨SA', SO', he, hsc⟩ := (HSR9.out.mod0 HMy.out).2 (by omega)
          cases he
          have hsl : s.list.length = 8 := rfl
          have hrl : r.list.length = 8 := rfl
          have cs : wy.cell? ⟨SA, SO + j, none⟩ = some (.int .u32 (x.toNat : Int)) := hsc j _ (by
            rw [v32l_get, ← hx, List.getD_eq_getElem?_getD, List.getElem?_eq_getElem (by rw [hsl]; exact hlt8)]
            rfl)
          have cl' : wy.cell? ⟨L, LO + j, none⟩ = some (.int .u32 (y.toNat : Int)) := hlc j _ (by
            rw [v32l_get, ← hy, List.getD_eq_getElem?_getD, List.getElem?_eq_getElem (by rw [hrl]; exact hlt8)]
            rfl)
          have hnx : (s.plus r).list.take j ++ [x + y] = (s.plus r).list.take (j + 1) := by
            rw [← hx, ← hy]
            match j, hlt8 with
            | 0, _ => rfl
            | 1, _ => rfl
            | 2, _ => rfl
            | 3, _ => rfl
            | 4, _ => rfl
            | 5, _ => rfl
            | 6, _ => rfl
            | 7, _ => rfl
          have HNX := Lib.hid hnx
          have hadd : IntKind.u32.wrap ((x.toNat : Int) + (y.toNat : Int)) = ((x + y).toNat : Int) := b32_add x y
          have i1 : (0 : Int) ≤ (j : Int) := by omega
          have i2 : (j : Int) < 8 := by omega
          have HJ := Lib.hid (And.intro hlt8 hjc)
          have hbase := HMy.out.size
          have HBASE : Hid (wr.heap.size ≤ wy.heap.size + 1) := Lib.hid (by omega)
          clear hx hy hlc hsc hsl hrl hnx hbase
          go_wp2_with fail
          go_region_law
            (first
              | (refine step_app32 wt _ rfl (.tmp 125) (.tmp 135) rfl wr.heap.size (.slice Aj j cj) j _ rfl (by first | exact (HO.out.alloc _).drew | exact HO.out.drew.alloc _) (some ⟨wy.heap.size, 0, none⟩) 1 1 [x + y] rfl (by first | exact (one_word wy _ _).drew | exact one_word wy.drew _ _) (j + 1) rfl _ HNX.out (by have := HJ.out.1; omega) (by simp only [World.size_alloc, World.size_drew]; exact HBASE.out) ?_
                 intro A9 c9 w9 hc9 hc9' ho9 hg9 ha9
                 have HO9 := Lib.hid ho9
                 have HM9 := Lib.hid ((HMy.out.alloc _).drew.grown hg9 fun q hq => .inr (HO.out.lt q hq).1)
                 have HC9 := Lib.hid hc9
                 clear ho9 hg9 ha9 hc9)
              | fail)
          all_goals
            have l1 := HJ.out.1
            have hc9q := HC9.out
            clear cs cl' hadd
            go_wp2_with fail
            go_roundw
            case rel => exact ⟨j + 1, c9, A9, by omega, by go_num, rfl, hc9q, HO9.out, HM9.out⟩
            case measure => simp [intOf]; omega
        · obtain rfl : j = 8 := by omega
          go_wp2_with fail
          go_ret
          refine ⟨Aj, cj, rfl, hjc, ?_, HMW.out.trans0 HMy.out⟩
          have h9 := Rd.of_own HO.out
          rw [List.take_of_length_le (by show 8 ≤ 8; omega)] at h9
          rw [HFIN.out]
          exact h9

end Go.Proofs.YtgnpmmhpeianpaaGreatDoor
