/- sawyerref10.Check. -/
import Derived.Test.YtdpjnpjmokncdaaGreatDoorB31
import Derived.Test.YtdpjnpjmokncdaaGreatDoorB34
import Derived.Test.YtdpjnpjmokncdaaGreatDoorB28
namespace Go.Proofs.YtdpjnpjmokncdaaGreatDoor
open Go.RowKit

/-- between two rounds. -/
structure CkM (w : World) (x : Vw) (ts : List Mt) (k : Nat) (bx : Nat) (wr : World) : Prop where
  mod : Mod Non w wr
  box : Blk wr bx 30 #[.int .i64 x.gen, .int .i64 x.next, .int .i64 x.log, .int .i64 x.seq, .slice x.A x.ms.length x.c]
  eq : tabsAll x.next [] ts = tabsAll x.next (ts.take k) (ts.drop k)
  lev : ∀ p, p < k → ∀ m, ts[p]? = some m → 0 ≤ m.level

theorem nums_free {ts : List Mt} {k : Nat} {num : Int} (h : ∀ i, i < k → ∀ m, ts[i]? = some m → m.num ≠ num) : ((ts.take k).map (·.num)).contains num = false := by
  cases hc : ((ts.take k).map (·.num)).contains num with
  | false => rfl
  | true =>
    exfalso
    simp only [List.contains_eq_mem, decide_eq_true_eq, List.mem_map] at hc
    obtain ⟨m, hm, e⟩ := hc
    obtain ⟨i, hi⟩ := List.mem_iff_getElem?.1 hm
    rw [List.getElem?_take] at hi
    split at hi
    · rename_i h1
      exact h i h1 m hi e
    · cases hi
theorem nums_met {ts : List Mt} {k i : Nat} {m : Mt} (hi : i < k) (hm : ts[i]? = some m) : ((ts.take k).map (·.num)).contains m.num = true := by
  simp only [List.contains_eq_mem, decide_eq_true_eq]
  exact List.mem_map.2 ⟨m, List.mem_iff_getElem?.2 ⟨i, by rw [List.getElem?_take, if_pos hi]; exact hm⟩, rfl⟩
theorem condAt_right {next : Int} {pre : List Mt} {m : Mt} (h : condAt next pre m = true) : 0 ≤ m.level := by
  unfold condAt mtRight at h
  simp only [Bool.and_eq_true, decide_eq_true_eq] at h
  exact h.2.1.2.1.1

def prevOk (pre : List Mt) (m : Mt) : Bool := match pre.getLast? with
  | none => true
  | some l => aheadB l m && !(decide (l.level = m.level ∧ 0 < m.level) && !lessB l.last m.first)
theorem condAt_eq (next : Int) (pre : List Mt) (m : Mt) : condAt next pre m = (mtRight m && (decide (m.num < next) && (prevOk pre m && !(pre.map (·.num)).contains m.num))) := by
  show ((!(pre.map (·.num)).contains m.num) && (mtRight m && (decide (m.num < next) && (prevOk pre m)))) = (mtRight m && (decide (m.num < next) && (prevOk pre m && !(pre.map (·.num)).contains m.num)))
  generalize (pre.map (·.num)).contains m.num = a
  generalize mtRight m = b
  generalize decide (m.num < next) = c
  generalize prevOk pre m = d
  cases a <;> cases b <;> cases c <;> cases d <;> rfl

set_option maxRecDepth 100000 in
set_option maxHeartbeats 8000000 in
theorem checkR_any (x : Vw) (w : World) (h : VwOk w x) :
    Calls Tryz.prog 109 #[x.val] w fun e w' => e = .returned (.int .i64 (if checkV x.v = true then 0 else 1)) ∧ Mod Non w w' := by
  obtain ⟨gen, next, log, seq, A, c, ms⟩ := x
  obtain ⟨n, hn⟩ : ∃ n, ms.length = n := ⟨_, rfl⟩
  obtain ⟨hrow, hnc, hcm, hok⟩ := h
  simp only at hrow hnc hcm hok
  rw [hn] at hrow hnc
  obtain ⟨R, hR⟩ : ∃ R : Int, (if checkV (Vw.v ⟨gen, next, log, seq, A, c, ms⟩) = true then 0 else 1) = R := ⟨_, rfl⟩
  rw [hR]
  unfold Vw.val
  simp only
  rw [hn]
  have HN := Lib.hid hn
  have HR := Lib.hid hR
  have HROW := Lib.hid hrow
  have HOK := Lib.hid hok
  obtain ⟨b1, h1⟩ : ∃ b, inN gen = b := ⟨_, rfl⟩
  obtain ⟨b2, h2⟩ : ∃ b, inN next = b := ⟨_, rfl⟩
  obtain ⟨b3, h3⟩ : ∃ b, inN log = b := ⟨_, rfl⟩
  obtain ⟨b4, h4⟩ : ∃ b, inN seq = b := ⟨_, rfl⟩
  have HB1 := Lib.hid h1
  have HB2 := Lib.hid h2
  have HB3 := Lib.hid h3
  have HB4 := Lib.hid h4
  have HMA := Lib.hid ((Mod.refl Non w).alloc (.cells #[.int .i64 gen, .int .i64 next, .int .i64 log, .int .i64 seq, .slice A n c] 30))
  have hbad : ∀ q : Bool, (b1 && (b2 && (b3 && (b4 && decide (n ≤ 4096))))) = q → headOk (Vw.v ⟨gen, next, log, seq, A, c, ms⟩) = q := fun q e => by
    unfold headOk Vw.v
    simp only [List.length_map]
    rw [HB1.out, HB2.out, HB3.out, HB4.out, HN.out]
    exact e
  have HHD := Lib.hid hbad
  have hbox : Blk (w.alloc (.cells #[.int .i64 gen, .int .i64 next, .int .i64 log, .int .i64 seq, .slice A n c] 30)) w.heap.size 30 #[.int .i64 gen, .int .i64 next, .int .i64 log, .int .i64 seq, .slice A n c] := Blk.new _ _ _
  have HBX := Lib.hid hbox
  clear hn hR hrow hok h1 h2 h3 h4 hbad hbox
  cases b1 with
  | false =>
    go_enter Tryz.func109, Tryz.ntmps109
    go_wp2_with (first
        | (go_at_call 145
           (with_reducible refine (inR_any gen _).mono ?_)
           rw [HB1.out]
           rintro e w1 ⟨rfl, rfl⟩)
        | (go_at_call 145
           (with_reducible refine (inR_any next _).mono ?_)
           rw [HB2.out]
           rintro e w1 ⟨rfl, rfl⟩)
        | (go_at_call 145
           (with_reducible refine (inR_any log _).mono ?_)
           rw [HB3.out]
           rintro e w1 ⟨rfl, rfl⟩)
        | (go_at_call 145
           (with_reducible refine (inR_any seq _).mono ?_)
           rw [HB4.out]
           rintro e w1 ⟨rfl, rfl⟩))
    go_ret
    exact ⟨by rw [← HR.out, if_neg (by unfold checkV; rw [HHD.out false (by simp [*])]; simp)]; rfl, HMA.out⟩
  | true =>
    cases b2 with
    | false =>
      go_enter Tryz.func109, Tryz.ntmps109
      go_wp2_with (first
          | (go_at_call 145
             (with_reducible refine (inR_any gen _).mono ?_)
             rw [HB1.out]
             rintro e w1 ⟨rfl, rfl⟩)
          | (go_at_call 145
             (with_reducible refine (inR_any next _).mono ?_)
             rw [HB2.out]
             rintro e w1 ⟨rfl, rfl⟩)
          | (go_at_call 145
             (with_reducible refine (inR_any log _).mono ?_)
             rw [HB3.out]
             rintro e w1 ⟨rfl, rfl⟩)
          | (go_at_call 145
             (with_reducible refine (inR_any seq _).mono ?_)
             rw [HB4.out]
             rintro e w1 ⟨rfl, rfl⟩))
      go_ret
      exact ⟨by rw [← HR.out, if_neg (by unfold checkV; rw [HHD.out false (by simp [*])]; simp)]; rfl, HMA.out⟩
    | true =>
      cases b3 with
      | false =>
        go_enter Tryz.func109, Tryz.ntmps109
        go_wp2_with (first
            | (go_at_call 145
               (with_reducible refine (inR_any gen _).mono ?_)
               rw [HB1.out]
               rintro e w1 ⟨rfl, rfl⟩)
            | (go_at_call 145
               (with_reducible refine (inR_any next _).mono ?_)
               rw [HB2.out]
               rintro e w1 ⟨rfl, rfl⟩)
            | (go_at_call 145
               (with_reducible refine (inR_any log _).mono ?_)
               rw [HB3.out]
               rintro e w1 ⟨rfl, rfl⟩)
            | (go_at_call 145
               (with_reducible refine (inR_any seq _).mono ?_)
               rw [HB4.out]
               rintro e w1 ⟨rfl, rfl⟩))
        go_ret
        exact ⟨by rw [← HR.out, if_neg (by unfold checkV; rw [HHD.out false (by simp [*])]; simp)]; rfl, HMA.out⟩
      | true =>
        cases b4 with
        | false =>
          go_enter Tryz.func109, Tryz.ntmps109
          go_wp2_with (first
              | (go_at_call 145
                 (with_reducible refine (inR_any gen _).mono ?_)
                 rw [HB1.out]
                 rintro e w1 ⟨rfl, rfl⟩)
              | (go_at_call 145
                 (with_reducible refine (inR_any next _).mono ?_)
                 rw [HB2.out]
                 rintro e w1 ⟨rfl, rfl⟩)
              | (go_at_call 145
                 (with_reducible refine (inR_any log _).mono ?_)
                 rw [HB3.out]
                 rintro e w1 ⟨rfl, rfl⟩)
              | (go_at_call 145
                 (with_reducible refine (inR_any seq _).mono ?_)
                 rw [HB4.out]
                 rintro e w1 ⟨rfl, rfl⟩))
          go_ret
          exact ⟨by rw [← HR.out, if_neg (by unfold checkV; rw [HHD.out false (by simp [*])]; simp)]; rfl, HMA.out⟩
        | true =>
          by_cases q5 : n ≤ 4096
          · have q5d : decide (4096 < (n : Int)) = false := decide_eq_false (by omega)
            have hhead : headOk (Vw.v ⟨gen, next, log, seq, A, c, ms⟩) = true := HHD.out true (by simp [q5])
            have HHEAD := Lib.hid hhead
            obtain ⟨ts, hts⟩ : ∃ ts, ms.map (·.m) = ts := ⟨_, rfl⟩
            have htl : ts.length = n := by rw [← hts, List.length_map, HN.out]
            have hR2 : ∀ q : Bool, tabsAll next [] ts = q → R = if q = true then 0 else 1 := fun q e => by
              rw [← HR.out]
              unfold checkV
              rw [HHEAD.out]
              have : (Vw.v ⟨gen, next, log, seq, A, c, ms⟩).tables = ts := hts
              rw [this]
              show (if (true && tabsAll next [] ts) = true then (0 : Int) else 1) = _
              rw [e, Bool.true_and]
            have HR2 := Lib.hid hR2
            have HTS := Lib.hid hts
            have HTL := Lib.hid htl
            have hst : CkM w ⟨gen, next, log, seq, A, c, ms⟩ ts 0 w.heap.size (w.alloc (.cells #[.int .i64 gen, .int .i64 next, .int .i64 log, .int .i64 seq, .slice A n c] 30)) := by
              refine ⟨HMA.out, ?_, by simp, fun p hp => absurd hp (by omega)⟩
              have := HBX.out
              simp only [HN.out]
              exact this
            have HST := Lib.hid hst
            clear hhead hts htl hR2 hst
            go_enter Tryz.func109, Tryz.ntmps109
            go_wp2_with (first
                | (go_at_call 145
                   (with_reducible refine (inR_any gen _).mono ?_)
                   rw [HB1.out]
                   rintro e w1 ⟨rfl, rfl⟩)
                | (go_at_call 145
                   (with_reducible refine (inR_any next _).mono ?_)
                   rw [HB2.out]
                   rintro e w1 ⟨rfl, rfl⟩)
                | (go_at_call 145
                   (with_reducible refine (inR_any log _).mono ?_)
                   rw [HB3.out]
                   rintro e w1 ⟨rfl, rfl⟩)
                | (go_at_call 145
                   (with_reducible refine (inR_any seq _).mono ?_)
                   rw [HB4.out]
                   rintro e w1 ⟨rfl, rfl⟩))
            go_loopw [3] (fun i wr => ∃ (k : Nat), k ≤ n ∧ i = .int .i64 k ∧ Hid (CkM w ⟨gen, next, log, seq, A, c, ms⟩ ts k w.heap.size wr)) (fun i _ => n - (intOf i).toNat)
            case atStart => exact ⟨0, Nat.zero_le _, rfl, HST.out⟩
            case round =>
              obtain ⟨k, hk, rfl, HP⟩ := hrel
              have hws : w.heap.size < wr.heap.size := HP.out.box.lt
              have HLV := Lib.hid HP.out.lev
              have cv0 : wr.cell? ⟨w.heap.size, 4, none⟩ = some (.slice A n c) := by rw [← HN.out]; exact HP.out.box.cell 4
              by_cases hlt : k < n
              · obtain ⟨b, o, y, rfl, hy, g0, g1, g2, g3, g4⟩ := (HROW.out.mod0 HP.out.mod).mw HN.out hlt
                have hyt : ts[k]? = some y.m := by rw [← HTS.out, List.getElem?_map, hy]; rfl
                have hdrop : ts.drop k = y.m :: ts.drop (k + 1) := by
                  rw [List.drop_eq_getElem_cons (by rw [HTL.out]; exact hlt)]
                  congr 1
                  have := List.getElem?_eq_getElem (l := ts) (i := k) (by rw [HTL.out]; exact hlt)
                  rw [this] at hyt
                  exact Option.some.inj hyt
                have hcond : tabsAll next [] ts = (condAt next (ts.take k) y.m && tabsAll next (ts.take (k + 1)) (ts.drop (k + 1))) := by
                  rw [HP.out.eq, hdrop, tabsAll, take_snoc' ts k y.m hyt]
                have hbl : b < wr.heap.size := World.block_lt_of_cell? wr _ g0
                have i1 : (0 : Int) ≤ (k : Int) := by omega
                have i2 : (k : Int) < (n : Int) := by omega
                have HTK := Lib.hid (take_snoc' ts k y.m hyt)
                have HYM := Lib.hid (HOK.out y (List.mem_of_getElem? hy))
                have HCO := Lib.hid hcond
                have HYT := Lib.hid hyt
                obtain ⟨W2, hW2⟩ : ∃ W2, wr.alloc (.cells #[.int .i64 y.m.num, .int .i64 y.m.level, .int .i64 y.m.count, .slice y.A y.m.first.length y.ca, .slice y.B y.m.last.length y.cb] 62) = W2 := ⟨_, rfl⟩
                have hm2 : Mod Non wr W2 := by rw [← hW2]; exact (Mod.refl Non wr).alloc _
                have hb2 : Blk W2 wr.heap.size 62 #[.int .i64 y.m.num, .int .i64 y.m.level, .int .i64 y.m.count, .slice y.A y.m.first.length y.ca, .slice y.B y.m.last.length y.cb] := by rw [← hW2]; exact Blk.new _ _ _
                have HM2 := Lib.hid hm2
                have HB2 := Lib.hid hb2
                subst hW2
                clear hy hyt hdrop hcond hm2 hb2
                obtain ⟨⟨num, level, count, first, last⟩, YA, ca, YB, cb⟩ := y
                simp only at g0 g1 g2 g3 g4 HB2 HM2 HCO HTK HYM HYT
                obtain ⟨n1, hn1⟩ : ∃ n1, first.length = n1 := ⟨_, rfl⟩
                obtain ⟨n2, hn2⟩ : ∃ n2, last.length = n2 := ⟨_, rfl⟩
                have HN1 := Lib.hid hn1
                have HN2 := Lib.hid hn2
                rw [hn1] at g3 HB2 HM2
                rw [hn2] at g4 HB2 HM2
                clear hn1 hn2
                have hret : Hid (condAt next (ts.take k) ⟨num, level, count, first, last⟩ = false → R = 1) := fun e => by
                  have := HR2.out false (by rw [HCO.out, e]; rfl)
                  rw [this]; rfl
                obtain ⟨b5, hb5⟩ : ∃ b5, mtRight ⟨num, level, count, first, last⟩ = b5 := ⟨_, rfl⟩
                have HB5 := Lib.hid hb5
                have hcv : condAt next (ts.take k) ⟨num, level, count, first, last⟩ = (b5 && (decide (num < next) && (prevOk (ts.take k) ⟨num, level, count, first, last⟩ && !((ts.take k).map (·.num)).contains num))) := by
                  rw [condAt_eq, hb5]
                have HCV := Lib.hid hcv
                have hrb : ∀ W, Mod Non (wr.alloc (.cells #[.int .i64 num, .int .i64 level, .int .i64 count, .slice YA n1 ca, .slice YB n2 cb] 62)) W → Calls Tryz.prog 146 #[.agg #[.int .i64 num, .int .i64 level, .int .i64 count, .slice YA n1 ca, .slice YB n2 cb]] W fun e w' => e = .returned (.bool b5) ∧ Mod Non W w' := fun W hW => by
                  have hmr := rightMR_any ⟨⟨num, level, count, first, last⟩, YA, ca, YB, cb⟩ W (HYM.out.mod0 (HP.out.mod.trans0 (HM2.out.trans0 hW)))
                  unfold Mw.val at hmr
                  simp only at hmr
                  rw [HN1.out, HN2.out, HB5.out] at hmr
                  exact hmr
                have HRB := Lib.hid hrb
                clear hb5 hcv hrb
                go_wp2_with fail
                generalize wr.alloc (.cells #[.int .i64 num, .int .i64 level, .int .i64 count, .slice YA n1 ca, .slice YB n2 cb] 62) = W2 at *
                have HM02 := Lib.hid (HP.out.mod.trans0 HM2.out)
                have hd2 : Mod Non W2 { W2 with drawn := W2.drawn + 1 } := (Mod.refl Non W2).drew
                have k0 : ∀ x : WorldOf (Mod Non W2), x.W.cell? ⟨wr.heap.size, 0, none⟩ = some (.int .i64 num) := fun x => (HB2.out.mod x.ok fun h => h).cell 0
                have k1 : ∀ x : WorldOf (Mod Non W2), x.W.cell? ⟨wr.heap.size, 1, none⟩ = some (.int .i64 level) := fun x => (HB2.out.mod x.ok fun h => h).cell 1
                have k2 : ∀ x : WorldOf (Mod Non W2), x.W.cell? ⟨wr.heap.size, 2, none⟩ = some (.int .i64 count) := fun x => (HB2.out.mod x.ok fun h => h).cell 2
                have k3 : ∀ x : WorldOf (Mod Non W2), x.W.cell? ⟨wr.heap.size, 3, none⟩ = some (.slice YA n1 ca) := fun x => (HB2.out.mod x.ok fun h => h).cell 3
                have k4 : ∀ x : WorldOf (Mod Non W2), x.W.cell? ⟨wr.heap.size, 4, none⟩ = some (.slice YB n2 cb) := fun x => (HB2.out.mod x.ok fun h => h).cell 4
                have v1 : ∀ x : WorldOf (Mod Non W2), x.W.cell? ⟨w.heap.size, 1, none⟩ = some (.int .i64 next) := fun x => (HP.out.box.mod (HM2.out.trans0 x.ok) fun h => h).cell 1
                have v4 : ∀ x : WorldOf (Mod Non W2), x.W.cell? ⟨w.heap.size, 4, none⟩ = some (.slice (some ⟨b, o, none⟩) n c) := fun x => by rw [← HN.out]; exact (HP.out.box.mod (HM2.out.trans0 x.ok) fun h => h).cell 4
                have hne : Nonempty (WorldOf (Mod Non W2)) := ⟨⟨W2, Mod.refl _ _⟩⟩
                cases b5 with
                | false =>
                  have HR1 := Lib.hid (hret.out (by rw [HCV.out]; rfl))
                  refine wp_region_class (S := Mod Non W2) (by kernel_rfl) (by kernel_rfl) hd2 ?_
                  repeat (go_big_quiet_step ((go_at_call 146; exact Calls.quiet_class (HRB.out _ (WorldOf.ok _)))))
                  refine wpQuiet_nil ?_
                  rintro ⟨W3, hm3⟩
                  dsimp only
                  go_wp2_with fail
                  go_ret
                  exact ⟨by rw [HR1.out]; rfl, HM02.out.trans0 hm3⟩
                | true =>
                  by_cases hnx : num < next
                  · have hnd : decide (next ≤ num) = false := decide_eq_false (by omega)
                    have HNX := Lib.hid (decide_eq_true hnx : decide (num < next) = true)
                    have hcv2 : condAt next (ts.take k) ⟨num, level, count, first, last⟩ = (prevOk (ts.take k) ⟨num, level, count, first, last⟩ && !((ts.take k).map (·.num)).contains num) := by
                      rw [HCV.out, HNX.out, Bool.true_and, Bool.true_and]
                    have HCV2 := Lib.hid hcv2
                    clear hnx hcv2
                    by_cases hk0 : k = 0
                    · subst hk0
                      have HPR : Hid (prevOk (ts.take 0) ⟨num, level, count, first, last⟩ = true) := rfl
                      refine wp_region_class (S := Mod Non W2) (by kernel_rfl) (by kernel_rfl) hd2 ?_
                      repeat (go_big_quiet_step ((first
                        | (go_at_call 146; exact Calls.quiet_class (HRB.out _ (WorldOf.ok _)))
                        | (go_at_call 147; exact Calls.quiet_class (HAB.out _ (WorldOf.ok _))))))
                      refine wpQuiet_nil ?_
                      rintro ⟨W3, hm3⟩
                      dsimp only
                      go_wp2_with fail
                      have hd3 : Mod Non W2 { W3 with drawn := W3.drawn + 1 } := hm3.drew
                      refine wp_region_class (S := Mod Non W2) (by kernel_rfl) (by kernel_rfl) hd3 ?_
                      repeat (go_big_quiet_step ((go_at_call 148; exact Calls.quiet_class (HLC.out _ (WorldOf.ok _)))))
                      refine wpQuiet_nil ?_
                      rintro ⟨W4, hm4⟩
                      dsimp only
                      go_wp2_with fail
                      go_loopw [5] (fun i wi => ∃ (j : Nat), j ≤ 0 ∧ i = .int .i64 j ∧ Hid (Mod Non W2 wi) ∧ Hid (∀ i, i < j → ∀ m, ts[i]? = some m → m.num ≠ num)) (fun i _ => 0 - (intOf i).toNat)
                      case atStart => exact ⟨0, Nat.zero_le _, rfl, hm4, fun i hi => absurd hi (by omega)⟩
                      case round =>
                        obtain ⟨j, hj, rfl, HMI, HFR⟩ := hrel
                        rename World => wi
                        by_cases hjk : j < 0
                        · exact absurd hjk (by omega)
                        · obtain rfl : j = 0 := by omega
                          have hc : condAt next (ts.take (0)) ⟨num, level, count, first, last⟩ = true := by
                            rw [HCV2.out, HPR.out, nums_free HFR.out]
                            rfl
                          have HNM : Hid (CkM w ⟨gen, next, log, seq, some ⟨b, o, none⟩, c, ms⟩ ts (0 + 1) w.heap.size wi) := by
                            refine ⟨HM02.out.trans0 HMI.out, HP.out.box.mod (HM2.out.trans0 HMI.out) fun h => h, by rw [HCO.out, hc]; rfl, fun pp hp m hm => ?_⟩
                            have hr := condAt_right hc
                            rcases Nat.lt_or_ge pp (0) with h1 | h1
                            · exact HLV.out pp h1 m hm
                            · obtain rfl : pp = 0 := by omega
                              rw [HYT.out] at hm
                              cases hm
                              exact hr
                          clear hc hret
                          go_wp2_with fail
                          go_roundw
                          case rel => exact ⟨0 + 1, by omega, by go_num, HNM.out⟩
                          case measure => simp [intOf]; omega
                    · obtain ⟨p, rfl⟩ : ∃ p, k = p + 1 := ⟨k - 1, by omega⟩
                      obtain ⟨b', o', z, hbo, hz, e0, e1, e2, e3, e4⟩ := (HROW.out.mod0 HM02.out).mw HN.out (i := p) (by omega)
                      cases hbo
                      have hzo := (HOK.out z (List.mem_of_getElem? hz)).mod0 HM02.out
                      have hzt : ts[p]? = some z.m := by rw [← HTS.out, List.getElem?_map, hz]; rfl
                      have hlast : (ts.take (p + 1)).getLast? = some z.m := by rw [take_snoc' ts p z.m hzt]; simp
                      have hlv : 0 ≤ z.m.level := HLV.out p (by omega) z.m hzt
                      obtain ⟨⟨znum, zlevel, zcount, zfirst, zlast⟩, ZA, za, ZB, zb⟩ := z
                      simp only at e0 e1 e2 e3 e4 hlast hlv
                      obtain ⟨n3, hn3⟩ : ∃ n3, zfirst.length = n3 := ⟨_, rfl⟩
                      obtain ⟨n4, hn4⟩ : ∃ n4, zlast.length = n4 := ⟨_, rfl⟩
                      have HN3 := Lib.hid hn3
                      have HN4 := Lib.hid hn4
                      rw [hn3] at e3
                      rw [hn4] at e4
                      have HZO := Lib.hid hzo
                      have p0 : ∀ x : WorldOf (Mod Non W2), x.W.cell? ⟨b, o + p * 5, none⟩ = some (.int .i64 znum) := fun x => x.ok.cell e0 fun h => h
                      have p1 : ∀ x : WorldOf (Mod Non W2), x.W.cell? ⟨b, o + p * 5 + 1, none⟩ = some (.int .i64 zlevel) := fun x => x.ok.cell e1 fun h => h
                      have p2 : ∀ x : WorldOf (Mod Non W2), x.W.cell? ⟨b, o + p * 5 + 2, none⟩ = some (.int .i64 zcount) := fun x => x.ok.cell e2 fun h => h
                      have p3 : ∀ x : WorldOf (Mod Non W2), x.W.cell? ⟨b, o + p * 5 + 3, none⟩ = some (.slice ZA n3 za) := fun x => x.ok.cell e3 fun h => h
                      have p4 : ∀ x : WorldOf (Mod Non W2), x.W.cell? ⟨b, o + p * 5 + 4, none⟩ = some (.slice ZB n4 zb) := fun x => x.ok.cell e4 fun h => h
                      have j1 : (0 : Int) ≤ (p : Int) := by omega
                      have j2 : (p : Int) < (n : Int) := by omega
                      have j3 : IntKind.i64.wrap (p : Int) = (p : Int) := IntWalk.i64_in _ (by omega)
                      have j4 : (0 : Int) < (p : Int) + 1 := by omega
                      have j5 : decide ((0 : Int) < (p : Int) + 1) = true := decide_eq_true j4
                      have j6 : IntKind.i64.wrap ((p : Int) + 1 - 1) = (p : Int) := by rw [Int.add_sub_cancel]; exact j3
                      obtain ⟨ah, hah⟩ : ∃ ah, aheadB ⟨znum, zlevel, zcount, zfirst, zlast⟩ ⟨num, level, count, first, last⟩ = ah := ⟨_, rfl⟩
                      have hpr : prevOk (ts.take (p + 1)) ⟨num, level, count, first, last⟩ = (ah && !(decide (zlevel = level ∧ 0 < level) && !lessB zlast first)) := by
                        unfold prevOk
                        rw [hlast]
                        simp only
                        rw [hah]
                      have HPR := Lib.hid hpr
                      have hab : ∀ W, Mod Non W2 W → Calls Tryz.prog 147 #[.agg #[.int .i64 znum, .int .i64 zlevel, .int .i64 zcount, .slice ZA n3 za, .slice ZB n4 zb], .agg #[.int .i64 num, .int .i64 level, .int .i64 count, .slice YA n1 ca, .slice YB n2 cb]] W fun e w' => e = .returned (.bool ah) ∧ Mod Non W w' := fun W hW => by
                        have hmr := aheadMR_any ⟨⟨znum, zlevel, zcount, zfirst, zlast⟩, ZA, za, ZB, zb⟩ ⟨⟨num, level, count, first, last⟩, YA, ca, YB, cb⟩ W (HZO.out.mod0 hW) (HYM.out.mod0 (HM02.out.trans0 hW)) hlv
                        unfold Mw.val at hmr
                        simp only at hmr
                        rw [HN1.out, HN2.out, HN3.out, HN4.out, hah] at hmr
                        exact hmr
                      have HAB := Lib.hid hab
                      clear hz hzo hzt hlast hn3 hn4 hk0 hlv hah hpr hab e0 e1 e2 e3 e4
                      cases ah with
                      | false =>
                        have HR1 := Lib.hid (hret.out (by rw [HCV2.out, HPR.out]; rfl))
                        refine wp_region_class (S := Mod Non W2) (by kernel_rfl) (by kernel_rfl) hd2 ?_
                        repeat (go_big_quiet_step ((first
                          | (go_at_call 146; exact Calls.quiet_class (HRB.out _ (WorldOf.ok _)))
                          | (go_at_call 147; exact Calls.quiet_class (HAB.out _ (WorldOf.ok _))))))
                        refine wpQuiet_nil ?_
                        rintro ⟨W3, hm3⟩
                        dsimp only
                        go_wp2_with fail
                        go_ret
                        exact ⟨by rw [HR1.out]; rfl, HM02.out.trans0 hm3⟩
                      | true =>
                        by_cases hl0 : 0 < level
                        · have hlo : decide (0 < level) = true := decide_eq_true hl0
                          by_cases hle : zlevel = level
                          · subst hle
                            have hlessC : ∀ W, Mod Non W2 W → Calls Tryz.prog 148 #[.slice ZB n4 zb, .slice YA n1 ca] W fun e w' => e = .returned (.bool (lessB zlast first)) ∧ Mod Non W w' := fun W hW => by
                              have hz := HZO.out.mod0 hW
                              have hy := HYM.out.mod0 (HM02.out.trans0 hW)
                              have h1 := hz.b
                              have h2 := hy.a
                              have h3 := hz.b1
                              have h4 := hy.a1
                              simp only at h1 h2 h3 h4
                              rw [HN4.out] at h1 h3
                              rw [HN1.out] at h2 h4
                              exact lessR_any ZB YA n4 zb n1 ca zlast first W h1 h2 (by omega) (by omega)
                            obtain ⟨b6, hb6⟩ : ∃ b6, lessB zlast first = b6 := ⟨_, rfl⟩
                            rw [hb6] at hlessC
                            have HLC := Lib.hid hlessC
                            have hpr2 : prevOk (ts.take (p + 1)) ⟨num, zlevel, count, first, last⟩ = b6 := by
                              rw [HPR.out, decide_eq_true ⟨rfl, hl0⟩, hb6]
                              cases b6 <;> rfl
                            have HPR2 := Lib.hid hpr2
                            clear hb6 hpr2 hlessC
                            cases b6 with
                            | false =>
                              have HR1 := Lib.hid (hret.out (by rw [HCV2.out, HPR2.out]; rfl))
                              refine wp_region_class (S := Mod Non W2) (by kernel_rfl) (by kernel_rfl) hd2 ?_
                              repeat (go_big_quiet_step ((first
                                | (go_at_call 146; exact Calls.quiet_class (HRB.out _ (WorldOf.ok _)))
                                | (go_at_call 147; exact Calls.quiet_class (HAB.out _ (WorldOf.ok _))))))
                              refine wpQuiet_nil ?_
                              rintro ⟨W3, hm3⟩
                              dsimp only
                              go_wp2_with fail
                              have hd3 : Mod Non W2 { W3 with drawn := W3.drawn + 1 } := hm3.drew
                              refine wp_region_class (S := Mod Non W2) (by kernel_rfl) (by kernel_rfl) hd3 ?_
                              repeat (go_big_quiet_step ((go_at_call 148; exact Calls.quiet_class (HLC.out _ (WorldOf.ok _)))))
                              refine wpQuiet_nil ?_
                              rintro ⟨W4, hm4⟩
                              dsimp only
                              go_wp2_with fail
                              go_ret
                              exact ⟨by rw [HR1.out]; rfl, HM02.out.trans0 hm4⟩
                            | true =>
                              have HPT := HPR2
                              refine wp_region_class (S := Mod Non W2) (by kernel_rfl) (by kernel_rfl) hd2 ?_
                              repeat (go_big_quiet_step ((first
                                | (go_at_call 146; exact Calls.quiet_class (HRB.out _ (WorldOf.ok _)))
                                | (go_at_call 147; exact Calls.quiet_class (HAB.out _ (WorldOf.ok _))))))
                              refine wpQuiet_nil ?_
                              rintro ⟨W3, hm3⟩
                              dsimp only
                              go_wp2_with fail
                              have hd3 : Mod Non W2 { W3 with drawn := W3.drawn + 1 } := hm3.drew
                              refine wp_region_class (S := Mod Non W2) (by kernel_rfl) (by kernel_rfl) hd3 ?_
                              repeat (go_big_quiet_step ((go_at_call 148; exact Calls.quiet_class (HLC.out _ (WorldOf.ok _)))))
                              refine wpQuiet_nil ?_
                              rintro ⟨W4, hm4⟩
                              dsimp only
                              go_wp2_with fail
                              go_loopw [5] (fun i wi => ∃ (j : Nat), j ≤ p + 1 ∧ i = .int .i64 j ∧ Hid (Mod Non W2 wi) ∧ Hid (∀ i, i < j → ∀ m, ts[i]? = some m → m.num ≠ num)) (fun i _ => p + 1 - (intOf i).toNat)
                              case atStart => exact ⟨0, Nat.zero_le _, rfl, hm4, fun i hi => absurd hi (by omega)⟩
                              case round =>
                                obtain ⟨j, hj, rfl, HMI, HFR⟩ := hrel
                                rename World => wi
                                by_cases hjk : j < p + 1
                                · obtain ⟨b'', o'', z2, hbo2, hz2, f0, f1, f2, f3, f4⟩ := (HROW.out.mod0 HM02.out).mw HN.out (i := j) (by omega)
                                  cases hbo2
                                  have hzt2 : ts[j]? = some z2.m := by rw [← HTS.out, List.getElem?_map, hz2]; rfl
                                  obtain ⟨⟨znum2, zlevel2, zcount2, zfirst2, zlast2⟩, ZA2, za2, ZB2, zb2⟩ := z2
                                  simp only at f0 f1 f2 f3 f4 hzt2
                                  have q0 : ∀ x : WorldOf (Mod Non W2), x.W.cell? ⟨b, o + j * 5, none⟩ = some (.int .i64 znum2) := fun x => x.ok.cell f0 fun h => h
                                  have l1 : (0 : Int) ≤ (j : Int) := by omega
                                  have l2 : (j : Int) < (n : Int) := by omega
                                  have hdi : Mod Non W2 { wi with drawn := wi.drawn + 1 } := HMI.out.drew
                                  have HZT2 := Lib.hid hzt2
                                  clear hz2 hzt2 f0 f1 f2 f3 f4
                                  by_cases hnn : znum2 = num
                                  · subst hnn
                                    have HR1 := Lib.hid (hret.out (by rw [HCV2.out, nums_met hjk HZT2.out, Bool.not_true, Bool.and_false]))
                                    go_wp2_with fail
                                    refine wp_region_class (S := Mod Non W2) (by kernel_rfl) (by kernel_rfl) hdi ?_
                                    repeat (go_big_quiet_step (fail))
                                    refine wpQuiet_nil ?_
                                    rintro ⟨W5, hm5⟩
                                    dsimp only
                                    go_wp2_with fail
                                    go_ret
                                    exact ⟨by rw [HR1.out]; rfl, HM02.out.trans0 hm5⟩
                                  · have hnb : (znum2 == num) = false := beq_eq_false_iff_ne.2 hnn
                                    have HNN := Lib.hid hnn
                                    clear hnn
                                    go_wp2_with fail
                                    refine wp_region_class (S := Mod Non W2) (by kernel_rfl) (by kernel_rfl) hdi ?_
                                    repeat (go_big_quiet_step (fail))
                                    refine wpQuiet_nil ?_
                                    rintro ⟨W5, hm5⟩
                                    dsimp only
                                    go_wp2_with fail
                                    go_roundw
                                    case rel =>
                                      refine ⟨j + 1, by omega, by go_num, hm5, fun i hi m hm => ?_⟩
                                      rcases Nat.lt_or_ge i j with h1 | h1
                                      · exact HFR.out i h1 m hm
                                      · obtain rfl : i = j := by omega
                                        rw [HZT2.out] at hm
                                        cases hm
                                        exact HNN.out
                                    case measure => simp [intOf]; omega
                                · obtain rfl : j = p + 1 := by omega
                                  have hc : condAt next (ts.take (p + 1)) ⟨num, zlevel, count, first, last⟩ = true := by
                                    rw [HCV2.out, HPT.out, nums_free HFR.out]
                                    rfl
                                  have HNM : Hid (CkM w ⟨gen, next, log, seq, some ⟨b, o, none⟩, c, ms⟩ ts (p + 1 + 1) w.heap.size wi) := by
                                    refine ⟨HM02.out.trans0 HMI.out, HP.out.box.mod (HM2.out.trans0 HMI.out) fun h => h, by rw [HCO.out, hc]; rfl, fun pp hp m hm => ?_⟩
                                    have hr := condAt_right hc
                                    rcases Nat.lt_or_ge pp (p + 1) with h1 | h1
                                    · exact HLV.out pp h1 m hm
                                    · obtain rfl : pp = p + 1 := by omega
                                      rw [HYT.out] at hm
                                      cases hm
                                      exact hr
                                  clear hc hret
                                  go_wp2_with fail
                                  go_roundw
                                  case rel => exact ⟨p + 1 + 1, by omega, by go_num, HNM.out⟩
                                  case measure => simp [intOf]; omega
                          · have hles : (zlevel == level) = false := beq_eq_false_iff_ne.2 hle
                            have HPT : Hid (prevOk (ts.take (p + 1)) ⟨num, level, count, first, last⟩ = true) := by
                              show _ = _
                              rw [HPR.out, decide_eq_false (fun h => hle h.1)]
                              rfl
                            refine wp_region_class (S := Mod Non W2) (by kernel_rfl) (by kernel_rfl) hd2 ?_
                            repeat (go_big_quiet_step ((first
                              | (go_at_call 146; exact Calls.quiet_class (HRB.out _ (WorldOf.ok _)))
                              | (go_at_call 147; exact Calls.quiet_class (HAB.out _ (WorldOf.ok _))))))
                            refine wpQuiet_nil ?_
                            rintro ⟨W3, hm3⟩
                            dsimp only
                            go_wp2_with fail
                            have hd3 : Mod Non W2 { W3 with drawn := W3.drawn + 1 } := hm3.drew
                            refine wp_region_class (S := Mod Non W2) (by kernel_rfl) (by kernel_rfl) hd3 ?_
                            repeat (go_big_quiet_step ((go_at_call 148; exact Calls.quiet_class (HLC.out _ (WorldOf.ok _)))))
                            refine wpQuiet_nil ?_
                            rintro ⟨W4, hm4⟩
                            dsimp only
                            go_wp2_with fail
                            go_loopw [5] (fun i wi => ∃ (j : Nat), j ≤ p + 1 ∧ i = .int .i64 j ∧ Hid (Mod Non W2 wi) ∧ Hid (∀ i, i < j → ∀ m, ts[i]? = some m → m.num ≠ num)) (fun i _ => p + 1 - (intOf i).toNat)
                            case atStart => exact ⟨0, Nat.zero_le _, rfl, hm4, fun i hi => absurd hi (by omega)⟩
                            case round =>
                              obtain ⟨j, hj, rfl, HMI, HFR⟩ := hrel
                              rename World => wi
                              by_cases hjk : j < p + 1
                              · obtain ⟨b'', o'', z2, hbo2, hz2, f0, f1, f2, f3, f4⟩ := (HROW.out.mod0 HM02.out).mw HN.out (i := j) (by omega)
                                cases hbo2
                                have hzt2 : ts[j]? = some z2.m := by rw [← HTS.out, List.getElem?_map, hz2]; rfl
                                obtain ⟨⟨znum2, zlevel2, zcount2, zfirst2, zlast2⟩, ZA2, za2, ZB2, zb2⟩ := z2
                                simp only at f0 f1 f2 f3 f4 hzt2
                                have q0 : ∀ x : WorldOf (Mod Non W2), x.W.cell? ⟨b, o + j * 5, none⟩ = some (.int .i64 znum2) := fun x => x.ok.cell f0 fun h => h
                                have l1 : (0 : Int) ≤ (j : Int) := by omega
                                have l2 : (j : Int) < (n : Int) := by omega
                                have hdi : Mod Non W2 { wi with drawn := wi.drawn + 1 } := HMI.out.drew
                                have HZT2 := Lib.hid hzt2
                                clear hz2 hzt2 f0 f1 f2 f3 f4
                                by_cases hnn : znum2 = num
                                · subst hnn
                                  have HR1 := Lib.hid (hret.out (by rw [HCV2.out, nums_met hjk HZT2.out, Bool.not_true, Bool.and_false]))
                                  go_wp2_with fail
                                  refine wp_region_class (S := Mod Non W2) (by kernel_rfl) (by kernel_rfl) hdi ?_
                                  repeat (go_big_quiet_step (fail))
                                  refine wpQuiet_nil ?_
                                  rintro ⟨W5, hm5⟩
                                  dsimp only
                                  go_wp2_with fail
                                  go_ret
                                  exact ⟨by rw [HR1.out]; rfl, HM02.out.trans0 hm5⟩
                                · have hnb : (znum2 == num) = false := beq_eq_false_iff_ne.2 hnn
                                  have HNN := Lib.hid hnn
                                  clear hnn
                                  go_wp2_with fail
                                  refine wp_region_class (S := Mod Non W2) (by kernel_rfl) (by kernel_rfl) hdi ?_
                                  repeat (go_big_quiet_step (fail))
                                  refine wpQuiet_nil ?_
                                  rintro ⟨W5, hm5⟩
                                  dsimp only
                                  go_wp2_with fail
                                  go_roundw
                                  case rel =>
                                    refine ⟨j + 1, by omega, by go_num, hm5, fun i hi m hm => ?_⟩
                                    rcases Nat.lt_or_ge i j with h1 | h1
                                    · exact HFR.out i h1 m hm
                                    · obtain rfl : i = j := by omega
                                      rw [HZT2.out] at hm
                                      cases hm
                                      exact HNN.out
                                  case measure => simp [intOf]; omega
                              · obtain rfl : j = p + 1 := by omega
                                have hc : condAt next (ts.take (p + 1)) ⟨num, level, count, first, last⟩ = true := by
                                  rw [HCV2.out, HPT.out, nums_free HFR.out]
                                  rfl
                                have HNM : Hid (CkM w ⟨gen, next, log, seq, some ⟨b, o, none⟩, c, ms⟩ ts (p + 1 + 1) w.heap.size wi) := by
                                  refine ⟨HM02.out.trans0 HMI.out, HP.out.box.mod (HM2.out.trans0 HMI.out) fun h => h, by rw [HCO.out, hc]; rfl, fun pp hp m hm => ?_⟩
                                  have hr := condAt_right hc
                                  rcases Nat.lt_or_ge pp (p + 1) with h1 | h1
                                  · exact HLV.out pp h1 m hm
                                  · obtain rfl : pp = p + 1 := by omega
                                    rw [HYT.out] at hm
                                    cases hm
                                    exact hr
                                clear hc hret
                                go_wp2_with fail
                                go_roundw
                                case rel => exact ⟨p + 1 + 1, by omega, by go_num, HNM.out⟩
                                case measure => simp [intOf]; omega
                        · have hlo : decide (0 < level) = false := decide_eq_false hl0
                          have HPT : Hid (prevOk (ts.take (p + 1)) ⟨num, level, count, first, last⟩ = true) := by
                            show _ = _
                            rw [HPR.out, decide_eq_false (fun h => hl0 h.2)]
                            rfl
                          refine wp_region_class (S := Mod Non W2) (by kernel_rfl) (by kernel_rfl) hd2 ?_
                          repeat (go_big_quiet_step ((first
                            | (go_at_call 146; exact Calls.quiet_class (HRB.out _ (WorldOf.ok _)))
                            | (go_at_call 147; exact Calls.quiet_class (HAB.out _ (WorldOf.ok _))))))
                          refine wpQuiet_nil ?_
                          rintro ⟨W3, hm3⟩
                          dsimp only
                          go_wp2_with fail
                          have hd3 : Mod Non W2 { W3 with drawn := W3.drawn + 1 } := hm3.drew
                          refine wp_region_class (S := Mod Non W2) (by kernel_rfl) (by kernel_rfl) hd3 ?_
                          repeat (go_big_quiet_step ((go_at_call 148; exact Calls.quiet_class (HLC.out _ (WorldOf.ok _)))))
                          refine wpQuiet_nil ?_
                          rintro ⟨W4, hm4⟩
                          dsimp only
                          go_wp2_with fail
                          go_loopw [5] (fun i wi => ∃ (j : Nat), j ≤ p + 1 ∧ i = .int .i64 j ∧ Hid (Mod Non W2 wi) ∧ Hid (∀ i, i < j → ∀ m, ts[i]? = some m → m.num ≠ num)) (fun i _ => p + 1 - (intOf i).toNat)
                          case atStart => exact ⟨0, Nat.zero_le _, rfl, hm4, fun i hi => absurd hi (by omega)⟩
                          case round =>
                            obtain ⟨j, hj, rfl, HMI, HFR⟩ := hrel
                            rename World => wi
                            by_cases hjk : j < p + 1
                            · obtain ⟨b'', o'', z2, hbo2, hz2, f0, f1, f2, f3, f4⟩ := (HROW.out.mod0 HM02.out).mw HN.out (i := j) (by omega)
                              cases hbo2
                              have hzt2 : ts[j]? = some z2.m := by rw [← HTS.out, List.getElem?_map, hz2]; rfl
                              obtain ⟨⟨znum2, zlevel2, zcount2, zfirst2, zlast2⟩, ZA2, za2, ZB2, zb2⟩ := z2
                              simp only at f0 f1 f2 f3 f4 hzt2
                              have q0 : ∀ x : WorldOf (Mod Non W2), x.W.cell? ⟨b, o + j * 5, none⟩ = some (.int .i64 znum2) := fun x => x.ok.cell f0 fun h => h
                              have l1 : (0 : Int) ≤ (j : Int) := by omega
                              have l2 : (j : Int) < (n : Int) := by omega
                              have hdi : Mod Non W2 { wi with drawn := wi.drawn + 1 } := HMI.out.drew
                              have HZT2 := Lib.hid hzt2
                              clear hz2 hzt2 f0 f1 f2 f3 f4
                              by_cases hnn : znum2 = num
                              · subst hnn
                                have HR1 := Lib.hid (hret.out (by rw [HCV2.out, nums_met hjk HZT2.out, Bool.not_true, Bool.and_false]))
                                go_wp2_with fail
                                refine wp_region_class (S := Mod Non W2) (by kernel_rfl) (by kernel_rfl) hdi ?_
                                repeat (go_big_quiet_step (fail))
                                refine wpQuiet_nil ?_
                                rintro ⟨W5, hm5⟩
                                dsimp only
                                go_wp2_with fail
                                go_ret
                                exact ⟨by rw [HR1.out]; rfl, HM02.out.trans0 hm5⟩
                              · have hnb : (znum2 == num) = false := beq_eq_false_iff_ne.2 hnn
                                have HNN := Lib.hid hnn
                                clear hnn
                                go_wp2_with fail
                                refine wp_region_class (S := Mod Non W2) (by kernel_rfl) (by kernel_rfl) hdi ?_
                                repeat (go_big_quiet_step (fail))
                                refine wpQuiet_nil ?_
                                rintro ⟨W5, hm5⟩
                                dsimp only
                                go_wp2_with fail
                                go_roundw
                                case rel =>
                                  refine ⟨j + 1, by omega, by go_num, hm5, fun i hi m hm => ?_⟩
                                  rcases Nat.lt_or_ge i j with h1 | h1
                                  · exact HFR.out i h1 m hm
                                  · obtain rfl : i = j := by omega
                                    rw [HZT2.out] at hm
                                    cases hm
                                    exact HNN.out
                                case measure => simp [intOf]; omega
                            · obtain rfl : j = p + 1 := by omega
                              have hc : condAt next (ts.take (p + 1)) ⟨num, level, count, first, last⟩ = true := by
                                rw [HCV2.out, HPT.out, nums_free HFR.out]
                                rfl
                              have HNM : Hid (CkM w ⟨gen, next, log, seq, some ⟨b, o, none⟩, c, ms⟩ ts (p + 1 + 1) w.heap.size wi) := by
                                refine ⟨HM02.out.trans0 HMI.out, HP.out.box.mod (HM2.out.trans0 HMI.out) fun h => h, by rw [HCO.out, hc]; rfl, fun pp hp m hm => ?_⟩
                                have hr := condAt_right hc
                                rcases Nat.lt_or_ge pp (p + 1) with h1 | h1
                                · exact HLV.out pp h1 m hm
                                · obtain rfl : pp = p + 1 := by omega
                                  rw [HYT.out] at hm
                                  cases hm
                                  exact hr
                              clear hc hret
                              go_wp2_with fail
                              go_roundw
                              case rel => exact ⟨p + 1 + 1, by omega, by go_num, HNM.out⟩
                              case measure => simp [intOf]; omega
                  · have hnd : decide (next ≤ num) = true := decide_eq_true (by omega)
                    have HR1 := Lib.hid (hret.out (by rw [HCV.out, decide_eq_false hnx]; rfl))
                    refine wp_region_class (S := Mod Non W2) (by kernel_rfl) (by kernel_rfl) hd2 ?_
                    repeat (go_big_quiet_step ((first
                      | (go_at_call 146; exact Calls.quiet_class (HRB.out _ (WorldOf.ok _)))
                      | (go_at_call 147; exact Calls.quiet_class (HAB.out _ (WorldOf.ok _))))))
                    refine wpQuiet_nil ?_
                    rintro ⟨W3, hm3⟩
                    dsimp only
                    go_wp2_with fail
                    go_ret
                    exact ⟨by rw [HR1.out]; rfl, HM02.out.trans0 hm3⟩
              · obtain rfl : k = n := by omega
                have heq : tabsAll next [] ts = true := by
                  rw [HP.out.eq, List.drop_eq_nil_of_le (by rw [HTL.out]; omega)]
                  rfl
                have hfin := HR2.out true heq
                have HF := Lib.hid hfin
                clear heq hfin
                go_wp2_with fail
                go_ret
                exact ⟨by rw [HF.out]; rfl, HP.out.mod⟩

          · have q5d : decide (4096 < (n : Int)) = true := decide_eq_true (by omega)
            go_enter Tryz.func109, Tryz.ntmps109
            go_wp2_with (first
                | (go_at_call 145
                   (with_reducible refine (inR_any gen _).mono ?_)
                   rw [HB1.out]
                   rintro e w1 ⟨rfl, rfl⟩)
                | (go_at_call 145
                   (with_reducible refine (inR_any next _).mono ?_)
                   rw [HB2.out]
                   rintro e w1 ⟨rfl, rfl⟩)
                | (go_at_call 145
                   (with_reducible refine (inR_any log _).mono ?_)
                   rw [HB3.out]
                   rintro e w1 ⟨rfl, rfl⟩)
                | (go_at_call 145
                   (with_reducible refine (inR_any seq _).mono ?_)
                   rw [HB4.out]
                   rintro e w1 ⟨rfl, rfl⟩))
            go_ret
            exact ⟨by rw [← HR.out, if_neg (by unfold checkV; rw [HHD.out false (by simp [*])]; simp)]; rfl, HMA.out⟩

end Go.Proofs.YtdpjnpjmokncdaaGreatDoor
