/- sawyerlaw18: begin and made; the frame of the laws over a new world. -/
import Derived.Test.YtgnpmmhpeianpaaGreatDoorB41
import Derived.Test.YtgnpmmhpeianpaaGreatDoorB07
import Derived.Test.YtgnpmmhpeianpaaGreatDoorB42
import Derived.Test.YtgnpmmhpeianpaaGreatDoorB35
import Derived.Test.YtgnpmmhpeianpaaGreatDoorB04
namespace Go.Proofs.YtgnpmmhpeianpaaGreatDoor
open Go.RowKit

set_option maxRecDepth 100000 in
set_option maxHeartbeats 1000000 in
theorem begin_first (F : Nat → Prop) (e g wd : Nat) (E : Eg) (w : World) (hb : Blk w wd 63 #[.pointer (some ⟨e, 0, none⟩), .pointer (some ⟨g, 0, none⟩), .pointer none, .pointer none]) (h : EgIs w F e E) (hl : E.pins.length < 16) (hq : 0 ≤ pinN E.pins E.seq ∧ pinN E.pins E.seq ≤ 1000000)
    (h8 : w.cell? ⟨g, 8, none⟩ = some (.int .i64 0)) (h10 : w.cell? ⟨g, 10, none⟩ = some (.slice none 0 0)) (hf : w.frozen? ⟨g, 10, none⟩ = false) (hwF : ¬ F wd) (hgF : ¬ F g) (hgw : g ≠ wd) (hgp : powG ≠ g) (hwp : powG ≠ wd) :
    Calls Tryz.prog 45 #[.pointer (some ⟨wd, 0, none⟩)] w fun r w' => ∃ t Ft, r = .returned (.bool true) ∧ w'.cell? ⟨wd, 2, none⟩ = some (.pointer (some ⟨t, 0, none⟩)) ∧ EgIs w' F e (pinE E) ∧ TxIs w' Ft t e ⟨E.seq, false, [], []⟩ ∧ Mod (fun k => F k ∨ k = g ∨ k = wd) w w' ∧ ∀ k, Ft k → w.heap.size ≤ k := by
  have HB := Lib.hid hb
  have HE := Lib.hid h
  have HF := Lib.hid hf
  have hgl := World.block_lt_of_cell? w _ h8
  simp only at hgl
  have hwl := hb.lt
  have hel := h.lt
  have hpw := h.pow
  have HT := Lib.hid (tbegin_any F e E w h hl hq)
  have c0 : w.cell? ⟨wd, 0, none⟩ = some (.pointer (some ⟨e, 0, none⟩)) := hb.cell 0
  obtain ⟨sq, hsq⟩ : ∃ sq, E.seq = sq := ⟨_, rfl⟩
  rw [hsq] at HT ⊢
  clear hb h hf
  go_enter Tryz.func45, Tryz.ntmps45
  go_wp2_with fail
  refine HT.out.mono ?_
  rintro r w1 ⟨t, Ft, rfl, he1, ht1, hm1, hf1⟩
  have HE1 := Lib.hid he1
  have HT1 := Lib.hid ht1
  have HM1 := Lib.hid hm1
  have HF1 := Lib.hid hf1
  have hb1 := HB.out.mod hm1 hwF
  have HB1 := Lib.hid hb1
  have c1 : w1.cell? ⟨wd, 1, none⟩ = some (.pointer (some ⟨g, 0, none⟩)) := hb1.cell 1
  have k8 := hm1.cell h8 hgF
  have k10 := hm1.cell h10 hgF
  have kf := (hm1.frozen (p := ⟨g, 10, none⟩) hgl hgF).trans HF.out
  have htl := ht1.lt
  clear he1 ht1 hm1 hf1 hb1 c0 h8 h10
  go_wp2_with fail
  refine (beginZ g w1 k8 k10 kf).mono ?_
  rintro r w2 ⟨b, rfl, hm2⟩
  have HM2 := Lib.hid hm2
  have hb2 := HB1.out.mod hm2 (fun h => hgw h.symm)
  have HB2 := Lib.hid hb2
  have x2 : w2.cell? ⟨wd, 2, none⟩ = some (.pointer none) := hb2.cell 2
  have x3 : w2.cell? ⟨wd, 3, none⟩ = some (.pointer none) := hb2.cell 3
  have f2 := hb2.frozen 2
  have f3 := hb2.frozen 3
  clear hm2 hb2 c1 k8 k10 kf
  go_wp2_with fail
  go_ret
  have hb4 := (HB2.out.set_ 2 (.pointer (some ⟨t, 0, none⟩))).set_ 3 (.pointer (some ⟨b, 0, none⟩))
  have hm4 : Mod (fun k => k = wd) w2 ((w2.setCell ⟨wd, 2, none⟩ (.pointer (some ⟨t, 0, none⟩))).setCell ⟨wd, 3, none⟩ (.pointer (some ⟨b, 0, none⟩))) := ((Mod.refl _ w2).set1 2 _).set1 3 _
  have hFt : ∀ k, Ft k → k ≠ g ∧ k ≠ wd := fun k hk => by
    have := HF1.out k hk
    exact ⟨by omega, by omega⟩
  refine ⟨t, Ft, rfl, hb4.cell 2, (HE1.out.mod HM2.out (fun k hk e => hgF (by rw [← e]; exact hk)) hgp).mod hm4 (fun k hk e => hwF (by rw [← e]; exact hk)) hwp, (HT1.out.mod HM2.out fun k hk => (hFt k hk).1).mod hm4 fun k hk => (hFt k hk).2, ?_, HF1.out⟩
  exact ((HM1.out.mono fun k hk => .inl hk).trans HM2.out fun k hk => .inl (.inr (.inl hk))).trans hm4 fun k hk => .inl (.inr (.inr hk))

/-- a new world of the laws: its engine and its transaction, behind n new trees. -/
structure Fw (w : World) (wd e t : Nat) (Fe Ft : Nat → Prop) (E : Eg) (n : Nat) (wr : World) : Prop where
  eg : EgIs wr Fe e E
  mem : E.mem = []
  tx : TxIs wr Ft t e ⟨0, false, frW n, []⟩
  dis : ∀ k, Fe k → ¬ Ft k
  wdc : wr.cell? ⟨wd, 2, none⟩ = some (.pointer (some ⟨t, 0, none⟩))
  wdn : ¬ Ft wd
  mod : Mod Non w wr
  far : ∀ k, Ft k → w.heap.size ≤ k
theorem Fw.mod0 {w wr w2 : World} {wd e t : Nat} {Fe Ft : Nat → Prop} {E : Eg} {n : Nat} (h : Fw w wd e t Fe Ft E n wr) (hm : Mod Non wr w2) : Fw w wd e t Fe Ft E n w2 :=
  ⟨h.eg.mod0 hm, h.mem, h.tx.mod0 hm, h.dis, hm.cell h.wdc fun h => h, h.wdn, h.mod.trans0 hm, h.far⟩
theorem Fw.noget {w wr : World} {wd e t : Nat} {Fe Ft : Nat → Prop} {E : Eg} {n : Nat} (h : Fw w wd e t Fe Ft E n wr) : NoGet wr e := fun W hm KA kn kc k s hk => getE_empty Fe e E KA kn kc k s W (h.eg.mod0 hm) h.mem hk
theorem Fw.fresh {w wr : World} {wd e t : Nat} {Fe Ft : Nat → Prop} {E : Eg} {n : Nat} (h : Fw w wd e t Fe Ft E n wr) (hn : n ≤ 64) :
    Calls Tryz.prog 22 #[.pointer (some ⟨t, 0, none⟩)] wr fun r w' => r = .returned (.tuple #[.int .i64 (if n < 64 then (n : Int) + 1 else 0), .int .i64 (if n < 64 then 0 else 1)]) ∧ ∃ F', Fw w wd e t Fe F' E (if n < 64 then n + 1 else n) w' := by
  refine (fresh_any Ft t e ⟨0, false, frW n, []⟩ n wr h.tx rfl rfl hn h.noget h.eg.lay.lt).mono ?_
  rintro r w' ⟨rfl, F', h1, h2, h3⟩
  have hp : ¬ Ft powG := by obtain ⟨_, _, _, _, _, _, _, _, _, h6, _⟩ := h.tx; exact h6
  have hlt := h.eg.lt
  have hwl := World.block_lt_of_cell? wr _ h.wdc
  simp only at hwl
  have hsz := h.mod.size
  refine ⟨rfl, F', h.eg.mod h2 h.dis hp, h.mem, h1, fun k hk hk' => ?_, h2.cell h.wdc h.wdn, fun hk => ?_, h.mod.trans h2 fun k hk => .inr (h.far k hk), fun k hk => ?_⟩
  · rcases h3 k hk' with h4 | h4
    · exact h.dis k hk h4
    · have := hlt k hk; omega
  · rcases h3 wd hk with h4 | h4
    · exact h.wdn h4
    · omega
  · rcases h3 k hk with h4 | h4
    · exact h.far k h4
    · omega

set_option maxRecDepth 100000 in
set_option maxHeartbeats 2000000 in
theorem made_new (w : World) (hL : Lay w) : Calls Tryz.prog 21 #[] w fun r w' => ∃ wd e t Fe Ft, r = .returned (.pointer (some ⟨wd, 0, none⟩)) ∧ Fw w wd e t Fe Ft (pinE (newEg 1099511627776)) 0 w' := by
  have HL := Lib.hid hL
  have hpl := hL.lt
  clear hL
  go_enter Tryz.func21, Tryz.ntmps21
  go_wp2_with fail
  refine (new_yes 1099511627776 w HL.out (by omega) (by omega)).mono ?_
  rintro r w1 ⟨d, F, rfl, hd1, hb1, hF1⟩
  have HD1 := Lib.hid hd1
  have HM1 := Lib.hid (Mod.of_below (S := Non) hb1)
  have HF1 := Lib.hid hF1
  have hs1 := HM1.out.size
  clear hd1 hb1 hF1
  go_wp2_with fail
  refine (openE_new 1099511627776 F d w1 HD1.out (by omega) (by omega)).mono ?_
  rintro r w2 ⟨e, Fe, rfl, he2, hm2, hf2⟩
  have HE2 := Lib.hid he2
  have HM2 := Lib.hid (HM1.out.trans0 hm2)
  have hs2 := hm2.size
  have HFE : Hid (∀ k, Fe k → w.heap.size ≤ k) := fun k hk => by
    rcases hf2 k hk with h | h
    · exact HF1.out k h
    · omega
  clear he2 hm2 hf2
  go_wp2_with fail
  refine (newZ_any 1099511627776 w2 (by omega) (by omega)).mono ?_
  rintro r w3 ⟨rfl, hz3, hm3⟩
  have HZ3 := Lib.hid hz3
  have HM3 := Lib.hid (HM2.out.trans0 hm3)
  have HE3 := Lib.hid (HE2.out.mod0 hm3)
  have hs3 := hm3.size
  clear hz3 hm3
  go_wp2_with fail
  refine (openZ w2.heap.size 1099511627776 w3 HZ3.out).mono ?_
  rintro r w4 ⟨g, hg, rfl, hb4, hm4⟩
  have HB4 := Lib.hid hb4
  have HM4 := Lib.hid (HM3.out.trans0 hm4)
  have HE4 := Lib.hid (HE3.out.mod0 hm4)
  have hel := HE3.out.lt
  have hgl := hb4.lt
  have hs4 := hm4.size
  clear hb4 hm4
  go_wp2_with fail
  obtain ⟨w5, hw5⟩ : ∃ w5, w5 = w4.alloc (.cells #[.pointer (some ⟨e, 0, none⟩), .pointer (some ⟨g, 0, none⟩), .pointer none, .pointer none] 63) := ⟨_, rfl⟩
  have hm5 : Mod Non w4 w5 := by rw [hw5]; exact (Mod.refl Non w4).alloc _
  have hb5 : Blk w5 w4.heap.size 63 #[.pointer (some ⟨e, 0, none⟩), .pointer (some ⟨g, 0, none⟩), .pointer none, .pointer none] := by rw [hw5]; exact Blk.new _ _ _
  have hg5 := HB4.out.mod hm5 fun h => h
  rw [← hw5]
  have hel4 := HE4.out.lt
  refine (begin_first Fe e g w4.heap.size (newEg 1099511627776) w5 hb5 (HE4.out.mod0 hm5) (by show (0 : Nat) < 16; omega) (by show (0 : Int) ≤ 0 ∧ (0 : Int) ≤ 1000000; omega) (hg5.cell 8) (hg5.cell 10) (hg5.frozen 10) (fun h => by have := hel4 _ h; omega) (fun h => by have := hel _ h; omega) (by omega) (by omega) (by omega)).mono ?_
  rintro r w6 ⟨t, Ft, rfl, hc6, he6, ht6, hm6, hf6⟩
  have hs5 := hm5.size
  have hfin : Hid (Fw w w4.heap.size e t Fe Ft (pinE (newEg 1099511627776)) 0 w6) := by
    refine ⟨he6, rfl, ht6, fun k hk hk' => ?_, hc6, fun hk => ?_, (HM4.out.trans0 hm5).trans hm6 fun k hk => ?_, fun k hk => ?_⟩
    · have := hel4 k hk
      have := hf6 k hk'
      omega
    · have := hf6 _ hk
      have := hb5.lt
      omega
    · rcases hk with hk | rfl | rfl
      · exact .inr (HFE.out k hk)
      · exact .inr (by omega)
      · exact .inr (by omega)
    · have := hf6 k hk
      omega
  clear hw5 hm5 hb5 hg5 hc6 he6 ht6 hm6 hf6
  go_wp2_with fail
  go_ret
  exact ⟨_, _, _, _, _, rfl, hfin.out⟩

end Go.Proofs.YtgnpmmhpeianpaaGreatDoor

/- sawyerlaw18.awake. -/
namespace Go.Proofs.YtgnpmmhpeianpaaGreatDoor
open Go.RowKit

theorem frW_other (n : Nat) (id : Int) (h0 : 1 ≤ id) (h1 : id ≤ 64) : findC (frW n) (keyB id 0 []) = none := by
  unfold frW
  split
  · rfl
  · rw [findC, if_neg, findC]
    intro h
    have := (keyB_inj h (by omega) (by omega) (by omega) (by omega) (by omega) (by omega) (by omega) (by omega)).1
    omega
theorem Fw.getTree {w wr : World} {wd e t : Nat} {Fe Ft : Nat → Prop} {E : Eg} {n : Nat} (h : Fw w wd e t Fe Ft E n wr) (id : Int) (h0 : 1 ≤ id) (h1 : id ≤ 64) :
    Calls Tryz.prog 23 #[.pointer (some ⟨t, 0, none⟩), .int .i64 id] wr fun r w' => r = .returned (.tuple #[zeroT, .int .i64 10]) ∧ Mod Non wr w' :=
  getTree_none Ft t e ⟨0, false, frW n, []⟩ id wr h.tx rfl (frW_val n) h.noget h0 h1 (frW_other n id h0 h1)

set_option maxRecDepth 100000 in
set_option maxHeartbeats 2000000 in
theorem awake18 (w : World) (hL : Lay w) : Calls Tryz.prog 4 #[] w fun r w' => r = .returned (.bool true) ∧ Mod Non w w' := by
  have HL := Lib.hid hL
  clear hL
  go_enter Tryz.func4, Tryz.ntmps4
  go_wp2_with fail
  refine (made_new w HL.out).mono ?_
  rintro r w1 ⟨wd, e, t, Fe, Ft, rfl, h1⟩
  have H1 := Lib.hid h1
  have c1 := h1.wdc
  clear h1
  go_wp2_with fail
  refine (H1.out.fresh (by omega)).mono ?_
  rintro r w2 ⟨rfl, Ft2, h2⟩
  rw [if_pos (by omega)] at h2
  have H2 := Lib.hid h2
  have c2 := h2.wdc
  clear h2 c1
  go_wp2_with fail
  refine (H2.out.fresh (by omega)).mono ?_
  rintro r w3 ⟨rfl, Ft3, h3⟩
  rw [if_pos (by omega)] at h3
  have H3 := Lib.hid h3
  have c3 := h3.wdc
  clear h3 c2
  go_wp2_with fail
  refine (H3.out.getTree 1 (by omega) (by omega)).mono ?_
  rintro r w4 ⟨rfl, hm4⟩
  have HM4 := Lib.hid (H3.out.mod.trans0 hm4)
  unfold zeroT
  clear hm4 c3
  go_wp2_with fail
  refine (row_ok 3 2 7 _ (by omega) (by omega) (by omega) (by omega) (by omega) (by omega)).mono ?_
  rintro r w5 ⟨A5, c5, rfl, -, hm5⟩
  have HM5 := Lib.hid ((HM4.out.alloc _).trans0 hm5)
  clear hm5
  go_wp2_with fail
  go_ret
  exact ⟨rfl, HM5.out⟩

end Go.Proofs.YtgnpmmhpeianpaaGreatDoor
