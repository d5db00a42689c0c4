/- edit.Check. -/
import Derived.Test.YtdpjnpjmokncdaaGreatDoorB25
import Derived.Test.YtdpjnpjmokncdaaGreatDoorB27
import Derived.Test.YtdpjnpjmokncdaaGreatDoorB02
import Derived.Maps.Own
import Derived.Maps.OwnOps
namespace Go.Proofs.YtdpjnpjmokncdaaGreatDoor
open Go.RowKit

/-- a version as it lies. -/
structure Vw where
  gen : Int
  next : Int
  log : Int
  seq : Int
  A : Option Addr
  c : Nat
  ms : List Mw
def Vw.v (x : Vw) : Vs := ⟨x.gen, x.next, x.log, x.seq, x.ms.map (·.m)⟩
def Vw.cells (x : Vw) : List Value := [.int .i64 x.gen, .int .i64 x.next, .int .i64 x.log, .int .i64 x.seq, .slice x.A x.ms.length x.c]
def Vw.val (x : Vw) : Value := .agg #[.int .i64 x.gen, .int .i64 x.next, .int .i64 x.log, .int .i64 x.seq, .slice x.A x.ms.length x.c]
structure VwOk (w : World) (x : Vw) : Prop where
  row : Rd w x.A (x.ms.length * 5) (x.ms.flatMap Mw.cells)
  nc : x.ms.length ≤ x.c
  cm : x.c ≤ 9223372036854775807
  ok : ∀ m ∈ x.ms, MwOk w m
theorem VwOk.mod0 {w w' : World} {x : Vw} (h : VwOk w x) (hm : Mod Non w w') : VwOk w' x := ⟨h.row.mod0 hm, h.nc, h.cm, fun m hx => (h.ok m hx).mod0 hm⟩
theorem fget {α : Type} (k : Nat) (cellsX : α → List Value) (hk : ∀ x, (cellsX x).length = k) : ∀ {xs : List α} {i : Nat} {x : α}, xs[i]? = some x → ∀ j, j < k → (xs.flatMap cellsX)[i * k + j]? = (cellsX x)[j]?
  | [], _, _, h, _, _ => by cases h
  | y :: r, 0, x, h, j, hj => by
    simp only [List.getElem?_cons_zero, Option.some.injEq] at h
    subst h
    rw [List.flatMap_cons, Nat.zero_mul, Nat.zero_add, List.getElem?_append_left (by rw [hk]; exact hj)]
  | y :: r, i + 1, x, h, j, hj => by
    rw [List.getElem?_cons_succ] at h
    rw [List.flatMap_cons, List.getElem?_append_right (by rw [hk, Nat.add_mul]; omega), hk, show (i + 1) * k + j - k = i * k + j by rw [Nat.add_mul]; omega]
    exact fget k cellsX hk h j hj
theorem Rd.mw {w : World} {A : Option Addr} {n : Nat} {xs : List Mw} (hl : xs.length = n) (h : Rd w A (n * 5) (xs.flatMap Mw.cells)) {i : Nat} (hi : i < n) :
    ∃ b o x, A = some ⟨b, o, none⟩ ∧ xs[i]? = some x ∧ w.cell? ⟨b, o + i * 5, none⟩ = some (.int .i64 x.m.num) ∧ w.cell? ⟨b, o + i * 5 + 1, none⟩ = some (.int .i64 x.m.level) ∧ w.cell? ⟨b, o + i * 5 + 2, none⟩ = some (.int .i64 x.m.count) ∧
      w.cell? ⟨b, o + i * 5 + 3, none⟩ = some (.slice x.A x.m.first.length x.ca) ∧ w.cell? ⟨b, o + i * 5 + 4, none⟩ = some (.slice x.B x.m.last.length x.cb) := by
  have hk : ∀ x, (Mw.cells x).length = 5 := fun _ => rfl
  obtain ⟨b, o, rfl, hc⟩ := h.2 (by omega)
  have hx : xs[i]? = some xs[i] := List.getElem?_eq_getElem (by omega)
  refine ⟨b, o, xs[i], rfl, hx, ?_, ?_, ?_, ?_, ?_⟩
  · exact hc (i * 5) _ (by rw [show i * 5 = i * 5 + 0 from rfl, fget 5 _ hk hx 0 (by omega)]; rfl)
  · rw [Nat.add_assoc]; exact hc (i * 5 + 1) _ (by rw [fget 5 _ hk hx 1 (by omega)]; rfl)
  · rw [Nat.add_assoc]; exact hc (i * 5 + 2) _ (by rw [fget 5 _ hk hx 2 (by omega)]; rfl)
  · rw [Nat.add_assoc]; exact hc (i * 5 + 3) _ (by rw [fget 5 _ hk hx 3 (by omega)]; rfl)
  · rw [Nat.add_assoc]; exact hc (i * 5 + 4) _ (by rw [fget 5 _ hk hx 4 (by omega)]; rfl)

/-! the numbers met, as a map -/
def metKV (pre : List Mt) : List (Int × Value) := pre.map fun m => (m.num, .int .i64 1)
theorem look_met (k : Int) : ∀ pre : List Mt, lookKV (metKV pre) k = if (pre.map (·.num)).contains k then some (.int .i64 1) else none
  | [] => rfl
  | m :: r => by
    show (if m.num = k then some (Value.int .i64 1) else lookKV (metKV r) k) = _
    rw [look_met k r, List.map_cons, List.contains_cons]
    by_cases h : m.num = k
    · simp [h]
    · have : (k == m.num) = false := beq_eq_false_iff_ne.2 fun e => h e.symm
      simp [h, this]
theorem look_put {κ : Type} [DecidableEq κ] (k : κ) (v : Value) : ∀ l : List (κ × Value), lookKV (putKV l k v) k = some v
  | [] => by simp [putKV, lookKV]
  | p :: r => by
    unfold putKV
    split
    · simp [lookKV]
    · rename_i h
      rw [lookKV, if_neg h, look_put k v r]
theorem put_none {κ : Type} [DecidableEq κ] (k : κ) (v : Value) : ∀ l : List (κ × Value), lookKV l k = none → putKV l k v = l ++ [(k, v)]
  | [], _ => rfl
  | p :: r, h => by
    unfold putKV
    rw [lookKV] at h
    split at h
    · cases h
    · rename_i hp
      rw [if_neg hp, put_none k v r h]; rfl
theorem zeroInt (w : World) : (zeroValue 3).run Tryz.prog w = .ok (.int .i64 0) w := by kernel_rfl

/-- between two rounds. -/
structure ChM (w : World) (x : Vw) (ts : List Mt) (k : Nat) (bx mb : Nat) (wr : World) : Prop where
  mod : Mod Non w wr
  box : Blk wr bx 34 #[.int .i64 x.gen, .int .i64 x.next, .int .i64 x.log, .int .i64 x.seq, .slice x.A x.ms.length x.c]
  map : MapAt (Value.int .i64) wr mb (metKV (ts.take k))
  eq : tabsAll x.next [] ts = tabsAll x.next (ts.take k) (ts.drop k)
  new : w.heap.size ≤ mb ∧ w.heap.size ≤ bx ∧ bx ≠ mb

set_option maxRecDepth 100000 in
set_option maxHeartbeats 8000000 in
theorem check_any (x : Vw) (w : World) (h : VwOk w x) :
    Calls Tryz.prog 22 #[x.val] w fun e w' => e = .returned (.int .i64 (if checkV x.v = true then 0 else 1)) ∧ Mod Non w w' := by
  obtain ⟨gen, next, log, seq, A, c, ms⟩ := x
  obtain ⟨n, hn⟩ : ∃ n, ms.length = n := ⟨_, rfl⟩
  have hX : VwOk w ⟨gen, next, log, seq, A, c, ms⟩ := h
  obtain ⟨hrow, hnc, hcm, hok⟩ := h
  simp only at hrow hnc hcm hok
  rw [hn] at hrow hnc
  obtain ⟨R, hR⟩ : ∃ R : Int, (if checkV (Vw.v ⟨gen, next, log, seq, A, c, ms⟩) = true then 0 else 1) = R := ⟨_, rfl⟩
  rw [hR]
  unfold Vw.val
  simp only
  rw [hn]
  have HN := Lib.hid hn
  have HR := Lib.hid hR
  have HROW := Lib.hid hrow
  have HOK := Lib.hid hok
  obtain ⟨b1, h1⟩ : ∃ b, inN gen = b := ⟨_, rfl⟩
  obtain ⟨b2, h2⟩ : ∃ b, inN next = b := ⟨_, rfl⟩
  obtain ⟨b3, h3⟩ : ∃ b, inN log = b := ⟨_, rfl⟩
  obtain ⟨b4, h4⟩ : ∃ b, inN seq = b := ⟨_, rfl⟩
  have HB1 := Lib.hid h1
  have HB2 := Lib.hid h2
  have HB3 := Lib.hid h3
  have HB4 := Lib.hid h4
  have HMA := Lib.hid ((Mod.refl Non w).alloc (.cells #[.int .i64 gen, .int .i64 next, .int .i64 log, .int .i64 seq, .slice A n c] 34))
  have hbad : ∀ q : Bool, (b1 && (b2 && (b3 && (b4 && decide (n ≤ 4096))))) = q → headOk (Vw.v ⟨gen, next, log, seq, A, c, ms⟩) = q := fun q e => by
    unfold headOk Vw.v
    simp only [List.length_map]
    rw [HB1.out, HB2.out, HB3.out, HB4.out, HN.out]
    exact e
  have HHD := Lib.hid hbad
  have hbox : Blk (w.alloc (.cells #[.int .i64 gen, .int .i64 next, .int .i64 log, .int .i64 seq, .slice A n c] 34)) w.heap.size 34 #[.int .i64 gen, .int .i64 next, .int .i64 log, .int .i64 seq, .slice A n c] := Blk.new _ _ _
  have HBX := Lib.hid hbox
  clear hn hR hrow hok h1 h2 h3 h4 hbad hbox
  cases b1 with
  | false =>
    go_enter Tryz.func22, Tryz.ntmps22
    go_wp2_with (first
        | (go_at_call 61
           (with_reducible refine (inN_any gen _).mono ?_)
           rw [HB1.out]
           rintro e w1 ⟨rfl, rfl⟩)
        | (go_at_call 61
           (with_reducible refine (inN_any next _).mono ?_)
           rw [HB2.out]
           rintro e w1 ⟨rfl, rfl⟩)
        | (go_at_call 61
           (with_reducible refine (inN_any log _).mono ?_)
           rw [HB3.out]
           rintro e w1 ⟨rfl, rfl⟩)
        | (go_at_call 61
           (with_reducible refine (inN_any seq _).mono ?_)
           rw [HB4.out]
           rintro e w1 ⟨rfl, rfl⟩))
    go_ret
    exact ⟨by rw [← HR.out, if_neg (by unfold checkV; rw [HHD.out false (by simp [*])]; simp)]; rfl, HMA.out⟩
  | true =>
    cases b2 with
    | false =>
      go_enter Tryz.func22, Tryz.ntmps22
      go_wp2_with (first
          | (go_at_call 61
             (with_reducible refine (inN_any gen _).mono ?_)
             rw [HB1.out]
             rintro e w1 ⟨rfl, rfl⟩)
          | (go_at_call 61
             (with_reducible refine (inN_any next _).mono ?_)
             rw [HB2.out]
             rintro e w1 ⟨rfl, rfl⟩)
          | (go_at_call 61
             (with_reducible refine (inN_any log _).mono ?_)
             rw [HB3.out]
             rintro e w1 ⟨rfl, rfl⟩)
          | (go_at_call 61
             (with_reducible refine (inN_any seq _).mono ?_)
             rw [HB4.out]
             rintro e w1 ⟨rfl, rfl⟩))
      go_ret
      exact ⟨by rw [← HR.out, if_neg (by unfold checkV; rw [HHD.out false (by simp [*])]; simp)]; rfl, HMA.out⟩
    | true =>
      cases b3 with
      | false =>
        go_enter Tryz.func22, Tryz.ntmps22
        go_wp2_with (first
            | (go_at_call 61
               (with_reducible refine (inN_any gen _).mono ?_)
               rw [HB1.out]
               rintro e w1 ⟨rfl, rfl⟩)
            | (go_at_call 61
               (with_reducible refine (inN_any next _).mono ?_)
               rw [HB2.out]
               rintro e w1 ⟨rfl, rfl⟩)
            | (go_at_call 61
               (with_reducible refine (inN_any log _).mono ?_)
               rw [HB3.out]
               rintro e w1 ⟨rfl, rfl⟩)
            | (go_at_call 61
               (with_reducible refine (inN_any seq _).mono ?_)
               rw [HB4.out]
               rintro e w1 ⟨rfl, rfl⟩))
        go_ret
        exact ⟨by rw [← HR.out, if_neg (by unfold checkV; rw [HHD.out false (by simp [*])]; simp)]; rfl, HMA.out⟩
      | true =>
        cases b4 with
        | false =>
          go_enter Tryz.func22, Tryz.ntmps22
          go_wp2_with (first
              | (go_at_call 61
                 (with_reducible refine (inN_any gen _).mono ?_)
                 rw [HB1.out]
                 rintro e w1 ⟨rfl, rfl⟩)
              | (go_at_call 61
                 (with_reducible refine (inN_any next _).mono ?_)
                 rw [HB2.out]
                 rintro e w1 ⟨rfl, rfl⟩)
              | (go_at_call 61
                 (with_reducible refine (inN_any log _).mono ?_)
                 rw [HB3.out]
                 rintro e w1 ⟨rfl, rfl⟩)
              | (go_at_call 61
                 (with_reducible refine (inN_any seq _).mono ?_)
                 rw [HB4.out]
                 rintro e w1 ⟨rfl, rfl⟩))
          go_ret
          exact ⟨by rw [← HR.out, if_neg (by unfold checkV; rw [HHD.out false (by simp [*])]; simp)]; rfl, HMA.out⟩
        | true =>
          by_cases q5 : n ≤ 4096
          · have q5d : decide (4096 < (n : Int)) = false := decide_eq_false (by omega)
            have hhead : headOk (Vw.v ⟨gen, next, log, seq, A, c, ms⟩) = true := HHD.out true (by simp [q5])
            have HHEAD := Lib.hid hhead
            have hmm := @run_makeMap Tryz.prog
            obtain ⟨ts, hts⟩ : ∃ ts, ms.map (·.m) = ts := ⟨_, rfl⟩
            have htl : ts.length = n := by rw [← hts, List.length_map, HN.out]
            have hR2 : ∀ q : Bool, tabsAll next [] ts = q → R = if q = true then 0 else 1 := fun q e => by
              rw [← HR.out]
              unfold checkV
              rw [HHEAD.out]
              have : (Vw.v ⟨gen, next, log, seq, A, c, ms⟩).tables = ts := hts
              rw [this]
              show (if (true && tabsAll next [] ts) = true then (0 : Int) else 1) = _
              rw [e, Bool.true_and]
            have HR2 := Lib.hid hR2
            have HTS := Lib.hid hts
            have HTL := Lib.hid htl
            have hst : ChM w ⟨gen, next, log, seq, A, c, ms⟩ ts 0 w.heap.size (w.heap.size + 1) ((w.alloc (.cells #[.int .i64 gen, .int .i64 next, .int .i64 log, .int .i64 seq, .slice A n c] 34)).alloc (.map #[] 0)) := by
              refine ⟨HMA.out.alloc _, ?_, ?_, by simp, ⟨by omega, by omega, by omega⟩⟩
              · have := HBX.out.alloc (.map #[] 0)
                simp only [HN.out]
                exact this
              · have := MapAt.new (Value.int .i64) (w.alloc (.cells #[.int .i64 gen, .int .i64 next, .int .i64 log, .int .i64 seq, .slice A n c] 34))
                rw [World.size_alloc] at this
                exact this
            have HST := Lib.hid hst
            clear hhead hts htl hR2 hst
            go_enter Tryz.func22, Tryz.ntmps22
            go_wp2_with (first
                | (go_at_call 61
                   (with_reducible refine (inN_any gen _).mono ?_)
                   rw [HB1.out]
                   rintro e w1 ⟨rfl, rfl⟩)
                | (go_at_call 61
                   (with_reducible refine (inN_any next _).mono ?_)
                   rw [HB2.out]
                   rintro e w1 ⟨rfl, rfl⟩)
                | (go_at_call 61
                   (with_reducible refine (inN_any log _).mono ?_)
                   rw [HB3.out]
                   rintro e w1 ⟨rfl, rfl⟩)
                | (go_at_call 61
                   (with_reducible refine (inN_any seq _).mono ?_)
                   rw [HB4.out]
                   rintro e w1 ⟨rfl, rfl⟩))
            go_loopw [39] (fun i wr => ∃ (k : Nat), k ≤ n ∧ i = .int .i64 k ∧ Hid (ChM w ⟨gen, next, log, seq, A, c, ms⟩ ts k w.heap.size (w.heap.size + 1) wr)) (fun i _ => n - (intOf i).toNat)
            case atStart => exact ⟨0, Nat.zero_le _, rfl, HST.out⟩
            case round =>
              obtain ⟨k, hk, rfl, HP⟩ := hrel
              have hws : w.heap.size + 1 < wr.heap.size := HP.out.map.lt
              by_cases hlt : k < n
              · obtain ⟨b, o, y, rfl, hy, g0, g1, g2, g3, g4⟩ := (HROW.out.mod0 HP.out.mod).mw HN.out hlt
                have hyo := (HOK.out y (List.mem_of_getElem? hy)).mod0 HP.out.mod
                have hyt : ts[k]? = some y.m := by rw [← HTS.out, List.getElem?_map, hy]; rfl
                have hdrop : ts.drop k = y.m :: ts.drop (k + 1) := by
                  rw [List.drop_eq_getElem_cons (by rw [HTL.out]; exact hlt)]
                  congr 1
                  have := List.getElem?_eq_getElem (l := ts) (i := k) (by rw [HTL.out]; exact hlt)
                  rw [this] at hyt
                  exact Option.some.inj hyt
                have hcond : tabsAll next [] ts = (condAt next (ts.take k) y.m && tabsAll next (ts.take (k + 1)) (ts.drop (k + 1))) := by
                  rw [HP.out.eq, hdrop, tabsAll, take_snoc' ts k y.m hyt]
                have hlook : (lookKV (metKV (ts.take k)) y.m.num).getD (.int .i64 0) = .int .i64 (if ((ts.take k).map (·.num)).contains y.m.num = true then 1 else 0) := by
                  rw [look_met]; split <;> rfl
                have hbl : b < wr.heap.size := World.block_lt_of_cell? wr _ g0
                have i1 : (0 : Int) ≤ (k : Int) := by omega
                have i2 : (k : Int) < (n : Int) := by omega
                have hbx := HP.out.box
                have HTK := Lib.hid (take_snoc' ts k y.m hyt)
                have HYM := Lib.hid (HOK.out y (List.mem_of_getElem? hy))
                have HYE := Lib.hid hy
                have HCO := Lib.hid hcond
                have HLK := Lib.hid hlook
                obtain ⟨W2, hW2⟩ : ∃ W2, wr.alloc (.cells #[.int .i64 y.m.num, .int .i64 y.m.level, .int .i64 y.m.count, .slice y.A y.m.first.length y.ca, .slice y.B y.m.last.length y.cb] 95) = W2 := ⟨_, rfl⟩
                have hm2 : Mod Non wr W2 := by rw [← hW2]; exact (Mod.refl Non wr).alloc _
                have hb2 : Blk W2 wr.heap.size 95 #[.int .i64 y.m.num, .int .i64 y.m.level, .int .i64 y.m.count, .slice y.A y.m.first.length y.ca, .slice y.B y.m.last.length y.cb] := by rw [← hW2]; exact Blk.new _ _ _
                have HM2 := Lib.hid hm2
                have HB2 := Lib.hid hb2
                subst hW2
                clear hy hyo hyt hdrop hcond hlook hbx hm2 hb2
                obtain ⟨⟨num, level, count, first, last⟩, YA, ca, YB, cb⟩ := y
                simp only at g0 g1 g2 g3 g4 HB2 HM2 HLK HCO HTK HYM
                obtain ⟨n1, hn1⟩ : ∃ n1, first.length = n1 := ⟨_, rfl⟩
                obtain ⟨n2, hn2⟩ : ∃ n2, last.length = n2 := ⟨_, rfl⟩
                have HN1 := Lib.hid hn1
                have HN2 := Lib.hid hn2
                rw [hn1] at g3 HB2 HM2
                rw [hn2] at g4 HB2 HM2
                clear hn1 hn2
                have HMAP := Lib.hid (HP.out.map.mod0' HM2.out)
                have hret : Hid (condAt next (ts.take k) ⟨num, level, count, first, last⟩ = false → R = 1) := fun e => by
                  have := HR2.out false (by rw [HCO.out, e]; rfl)
                  rw [this]; rfl
                by_cases hs : ((ts.take k).map (·.num)).contains num = true
                · have hcf : condAt next (ts.take k) ⟨num, level, count, first, last⟩ = false := by unfold condAt; simp only; rw [hs]; rfl
                  have HR1 := Lib.hid (hret.out hcf)
                  have HV0 : Hid ((if false = true then Value.tuple #[(lookKV (metKV (ts.take k)) num).getD (.int .i64 0), .bool (lookKV (metKV (ts.take k)) num).isSome] else (lookKV (metKV (ts.take k)) num).getD (.int .i64 0)) = .int .i64 1) := by
                    show _ = _
                    rw [if_neg (by simp), HLK.out, if_pos hs]
                  clear hs hcf hret
                  go_wp2_with (first
                    | (at_lookup
                       refine wpList_look _ rfl (.tmp 44) (.tmp 46) false rfl i64Key HMAP.out Tryz.underlying117 Tryz.underlying3 (zeroInt _) num rfl rfl (.int .i64 1) HV0.out ?_)
                    | (at_mapUpdate
                       refine wpList_put _ rfl (.tmp 44) (.tmp 46) (.tmp 48) rfl i64Key HMAP.out Tryz.underlying117 Tryz.underlying3 num (.int .i64 2) rfl rfl rfl ?_
                       intro w5 hp5 hm5
                       have HP5 := Lib.hid hp5
                       have HM5 := Lib.hid hm5
                       have HB5 := Lib.hid (HB2.out.mod hm5 (by omega))
                       have cm0 : w5.cell? ⟨wr.heap.size, 0, none⟩ = some (.int .i64 num) := HB5.out.cell 0
                       have HV2 : Hid ((if false = true then Value.tuple #[(lookKV (putKV (metKV (ts.take k)) num (.int .i64 2)) num).getD (.int .i64 0), .bool (lookKV (putKV (metKV (ts.take k)) num (.int .i64 2)) num).isSome] else (lookKV (putKV (metKV (ts.take k)) num (.int .i64 2)) num).getD (.int .i64 0)) = .int .i64 2) := by
                         show _ = _
                         rw [if_neg (by simp), look_put]; rfl
                       clear hp5 hm5)
                    | (at_lookup
                       refine wpList_look _ rfl (.tmp 49) (.tmp 51) false rfl i64Key HP5.out Tryz.underlying117 Tryz.underlying3 (zeroInt _) num rfl rfl (.int .i64 2) HV2.out ?_))
                  go_ret
                  exact ⟨by rw [HR1.out]; rfl, (HP.out.mod.trans0 HM2.out).trans HM5.out fun g hg => .inr (by omega)⟩
                · have hs' : ((ts.take k).map (·.num)).contains num = false := by simpa using hs
                  have HS := Lib.hid hs'
                  have hnone : lookKV (metKV (ts.take k)) num = none := by rw [look_met, if_neg hs]
                  have hput : putKV (metKV (ts.take k)) num (.int .i64 1) = metKV (ts.take (k + 1)) := by
                    rw [put_none _ _ _ hnone, HTK.out]
                    simp [metKV]
                  have HPUT := Lib.hid hput
                  have HV0 : Hid ((if false = true then Value.tuple #[(lookKV (metKV (ts.take k)) num).getD (.int .i64 0), .bool (lookKV (metKV (ts.take k)) num).isSome] else (lookKV (metKV (ts.take k)) num).getD (.int .i64 0)) = .int .i64 0) := by
                    show _ = _
                    rw [if_neg (by simp), hnone]; rfl
                  obtain ⟨b5, hb5⟩ : ∃ b5, mtRight ⟨num, level, count, first, last⟩ = b5 := ⟨_, rfl⟩
                  have HB5R := Lib.hid hb5
                  have hcv : condAt next (ts.take k) ⟨num, level, count, first, last⟩ = (b5 && (decide (num < next) && (match (ts.take k).getLast? with
                      | none => true
                      | some l => aheadB l ⟨num, level, count, first, last⟩ && !(decide (l.level = level ∧ 0 < level) && !lessB l.last first)))) := by
                    unfold condAt
                    simp only
                    rw [hs', hb5]
                    rfl
                  have HCV := Lib.hid hcv
                  clear hs hs' hnone hput hb5 hcv
                  have hold : ∀ g, blkOf (some (⟨b, o, none⟩ : Addr)) = some g → g < w.heap.size := fun g hg => by
                    obtain ⟨g', h1, h2⟩ := HROW.out.lt (by omega)
                    rw [hg] at h1
                    cases h1
                    exact h2
                  go_wp2_with (first
                    | (at_lookup
                       refine wpList_look _ rfl (.tmp 44) (.tmp 46) false rfl i64Key HMAP.out Tryz.underlying117 Tryz.underlying3 (zeroInt _) num rfl rfl (.int .i64 0) HV0.out ?_)
                    | (at_mapUpdate
                       refine wpList_put _ rfl (.tmp 44) (.tmp 46) (.tmp 48) rfl i64Key HMAP.out Tryz.underlying117 Tryz.underlying3 num (.int .i64 1) rfl rfl rfl ?_
                       intro w5 hp5 hm5
                       have HM5 := Lib.hid hm5
                       have HB5 := Lib.hid (HB2.out.mod hm5 (by omega))
                       have HBX5 := Lib.hid ((HP.out.box.mod HM2.out fun h => h).mod hm5 (by omega))
                       have HM05 := Lib.hid ((HP.out.mod.trans0 HM2.out).trans hm5 fun g hg => .inr (by omega))
                       have cm0 : w5.cell? ⟨wr.heap.size, 0, none⟩ = some (.int .i64 num) := HB5.out.cell 0
                       have cm1 : w5.cell? ⟨wr.heap.size, 1, none⟩ = some (.int .i64 level) := HB5.out.cell 1
                       have cm2 : w5.cell? ⟨wr.heap.size, 2, none⟩ = some (.int .i64 count) := HB5.out.cell 2
                       have cm3 : w5.cell? ⟨wr.heap.size, 3, none⟩ = some (.slice YA n1 ca) := HB5.out.cell 3
                       have cm4 : w5.cell? ⟨wr.heap.size, 4, none⟩ = some (.slice YB n2 cb) := HB5.out.cell 4
                       have cb1 : w5.cell? ⟨w.heap.size, 1, none⟩ = some (.int .i64 next) := HBX5.out.cell 1
                       have cb4 : w5.cell? ⟨w.heap.size, 4, none⟩ = some (.slice (some ⟨b, o, none⟩) n c) := by rw [← HN.out]; exact HBX5.out.cell 4
                       have HV2 : Hid ((if false = true then Value.tuple #[(lookKV (putKV (metKV (ts.take k)) num (.int .i64 1)) num).getD (.int .i64 0), .bool (lookKV (putKV (metKV (ts.take k)) num (.int .i64 1)) num).isSome] else (lookKV (putKV (metKV (ts.take k)) num (.int .i64 1)) num).getD (.int .i64 0)) = .int .i64 1) := by
                         show _ = _
                         rw [if_neg (by simp), look_put]; rfl
                       have HP5 := Lib.hid hp5
                       clear hp5 hm5)
                    | (at_lookup
                       refine wpList_look _ rfl (.tmp 49) (.tmp 51) false rfl i64Key HP5.out Tryz.underlying117 Tryz.underlying3 (zeroInt _) num rfl rfl (.int .i64 1) HV2.out ?_))
                  have hmr := mtRight_any ⟨⟨num, level, count, first, last⟩, YA, ca, YB, cb⟩ w5 (HYM.out.mod0 HM05.out)
                  unfold Mw.val at hmr
                  simp only at hmr
                  rw [HN1.out, HN2.out, HB5R.out] at hmr
                  refine hmr.mono ?_
                  clear hmr cm0 cm1 cm2 cm3 cm4 cb1 cb4
                  rintro e w6 ⟨rfl, hm6⟩
                  have HM06 := Lib.hid (HM05.out.trans0 hm6)
                  have HB6 := Lib.hid (HB5.out.mod hm6 fun h => h)
                  have HBX6 := Lib.hid (HBX5.out.mod hm6 fun h => h)
                  have HP6 := Lib.hid (HP5.out.mod0' hm6)
                  have cm0 : w6.cell? ⟨wr.heap.size, 0, none⟩ = some (.int .i64 num) := HB6.out.cell 0
                  have cb1 : w6.cell? ⟨w.heap.size, 1, none⟩ = some (.int .i64 next) := HBX6.out.cell 1
                  clear hm6
                  cases b5 with
                  | false =>
                    have HR1 := Lib.hid (hret.out (by rw [HCV.out]; rfl))
                    clear hret
                    go_wp2_with fail
                    go_ret
                    exact ⟨by rw [HR1.out]; rfl, HM06.out⟩
                  | true =>
                    by_cases hnx : num < next
                    · have hnd : decide (next ≤ num) = false := decide_eq_false (by omega)
                      have hnd2 : decide (num < next) = true := decide_eq_true hnx
                      have HNX := Lib.hid hnd2
                      have cb4 : w6.cell? ⟨w.heap.size, 4, none⟩ = some (.slice (some ⟨b, o, none⟩) n c) := by rw [← HN.out]; exact HBX6.out.cell 4
                      clear hnx hnd2
                      have hnextM : Hid (∀ W, Mod Non w6 W → condAt next (ts.take k) ⟨num, level, count, first, last⟩ = true → ChM w ⟨gen, next, log, seq, some ⟨b, o, none⟩, c, ms⟩ ts (k + 1) w.heap.size (w.heap.size + 1) W) := fun W hW hc => by
                        refine ⟨HM06.out.trans0 hW, HBX6.out.mod hW fun h => h, ?_, by rw [HCO.out, hc]; rfl, HP.out.new⟩
                        rw [← HPUT.out]
                        exact HP6.out.mod0' hW
                      by_cases hk0 : k = 0
                      · subst hk0
                        have hct : condAt next (ts.take 0) ⟨num, level, count, first, last⟩ = true := by rw [HCV.out, HNX.out]; rfl
                        have HNM := Lib.hid (hnextM.out w6 (Mod.refl _ _) hct)
                        clear hct hret hnextM
                        go_wp2_with fail
                        go_roundw
                        case rel => exact ⟨1, by omega, by go_num, HNM.out⟩
                        case measure => simp [intOf]; omega
                      · obtain ⟨p, rfl⟩ : ∃ p, k = p + 1 := ⟨k - 1, by omega⟩
                        obtain ⟨b', o', z, hbo, hz, e0, e1, e2, e3, e4⟩ := (HROW.out.mod0 HM06.out).mw HN.out (i := p) (by omega)
                        cases hbo
                        have hzo := (HOK.out z (List.mem_of_getElem? hz)).mod0 HM06.out
                        have hzt : ts[p]? = some z.m := by rw [← HTS.out, List.getElem?_map, hz]; rfl
                        have hlast : (ts.take (p + 1)).getLast? = some z.m := by rw [take_snoc' ts p z.m hzt]; simp
                        obtain ⟨⟨znum, zlevel, zcount, zfirst, zlast⟩, ZA, za, ZB, zb⟩ := z
                        simp only at e0 e1 e2 e3 e4 hlast
                        obtain ⟨n3, hn3⟩ : ∃ n3, zfirst.length = n3 := ⟨_, rfl⟩
                        obtain ⟨n4, hn4⟩ : ∃ n4, zlast.length = n4 := ⟨_, rfl⟩
                        have HN3 := Lib.hid hn3
                        have HN4 := Lib.hid hn4
                        rw [hn3] at e3
                        rw [hn4] at e4
                        have HZO := Lib.hid hzo
                        have HLA := Lib.hid hlast
                        have cm1 : w6.cell? ⟨wr.heap.size, 1, none⟩ = some (.int .i64 level) := HB6.out.cell 1
                        have cm2 : w6.cell? ⟨wr.heap.size, 2, none⟩ = some (.int .i64 count) := HB6.out.cell 2
                        have cm3 : w6.cell? ⟨wr.heap.size, 3, none⟩ = some (.slice YA n1 ca) := HB6.out.cell 3
                        have cm4 : w6.cell? ⟨wr.heap.size, 4, none⟩ = some (.slice YB n2 cb) := HB6.out.cell 4
                        have j1 : (0 : Int) ≤ (p : Int) := by omega
                        have j2 : (p : Int) < (n : Int) := by omega
                        have hw6 : wr.heap.size < w6.heap.size := HB6.out.lt
                        clear hz hzo hzt hlast hn3 hn4 hk0
                        go_wp2_with fail
                        have hm7 : Mod Non w6 (w6.alloc (.cells #[.int .i64 znum, .int .i64 zlevel, .int .i64 zcount, .slice ZA n3 za, .slice ZB n4 zb] 95)) := (Mod.refl Non w6).alloc _
                        have hb7 : Blk (w6.alloc (.cells #[.int .i64 znum, .int .i64 zlevel, .int .i64 zcount, .slice ZA n3 za, .slice ZB n4 zb] 95)) w6.heap.size 95 #[.int .i64 znum, .int .i64 zlevel, .int .i64 zcount, .slice ZA n3 za, .slice ZB n4 zb] := Blk.new _ _ _
                        generalize w6.alloc (.cells #[.int .i64 znum, .int .i64 zlevel, .int .i64 zcount, .slice ZA n3 za, .slice ZB n4 zb] 95) = w7 at *
                        obtain ⟨cv, hcv⟩ : ∃ cv, cmpM ⟨znum, zlevel, zcount, zfirst, zlast⟩ ⟨num, level, count, first, last⟩ = cv := ⟨_, rfl⟩
                        have hlt0 := cmpM_lt ⟨znum, zlevel, zcount, zfirst, zlast⟩ ⟨num, level, count, first, last⟩
                        rw [hcv] at hlt0
                        have hmc := mtCompare_any ⟨⟨znum, zlevel, zcount, zfirst, zlast⟩, ZA, za, ZB, zb⟩ ⟨⟨num, level, count, first, last⟩, YA, ca, YB, cb⟩ w7 (HZO.out.mod0 hm7) (HYM.out.mod0 (HM06.out.trans0 hm7))
                        unfold Mw.val at hmc
                        simp only at hmc
                        rw [HN1.out, HN2.out, HN3.out, HN4.out, hcv] at hmc
                        have HM7 := Lib.hid hm7
                        have HB7 := Lib.hid hb7
                        have HLT0 := Lib.hid hlt0
                        refine hmc.mono ?_
                        clear hmc hm7 hb7 hlt0 hcv cm0 cm1 cm2 cm3 cm4 cb1 cb4 e0 e1 e2 e3 e4
                        rintro e w8 ⟨rfl, hm8⟩
                        have HM8 := Lib.hid (HM7.out.trans0 hm8)
                        have hcz1 : w8.cell? ⟨w6.heap.size, 1, none⟩ = some (.int .i64 zlevel) := (HB7.out.mod hm8 fun h => h).cell 1
                        have hcz4 : w8.cell? ⟨w6.heap.size, 4, none⟩ = some (.slice ZB n4 zb) := (HB7.out.mod hm8 fun h => h).cell 4
                        have hcm1 : w8.cell? ⟨wr.heap.size, 1, none⟩ = some (.int .i64 level) := (HB6.out.mod HM8.out fun h => h).cell 1
                        have hcm3 : w8.cell? ⟨wr.heap.size, 3, none⟩ = some (.slice YA n1 ca) := (HB6.out.mod HM8.out fun h => h).cell 3
                        have hcva : Hid (condAt next (ts.take (p + 1)) ⟨num, level, count, first, last⟩ = (aheadB ⟨znum, zlevel, zcount, zfirst, zlast⟩ ⟨num, level, count, first, last⟩ && !(decide (zlevel = level ∧ 0 < level) && !lessB zlast first))) := by
                          show _ = _
                          rw [HCV.out, HNX.out, HLA.out]
                          rfl
                        clear hm8
                        cases hah : aheadB ⟨znum, zlevel, zcount, zfirst, zlast⟩ ⟨num, level, count, first, last⟩ with
                        | false =>
                          have hcd : decide (0 ≤ cv) = true := by
                            have := HLT0.out
                            rw [hah] at this
                            exact decide_eq_true (by have := of_decide_eq_false this; omega)
                          have HR1 := Lib.hid (hret.out (by rw [hcva.out, hah]; rfl))
                          clear hret hah
                          go_wp2_with fail
                          go_ret
                          exact ⟨by rw [HR1.out]; rfl, HM06.out.trans0 HM8.out⟩
                        | true =>
                          have hcd : decide (0 ≤ cv) = false := by
                            have := HLT0.out
                            rw [hah] at this
                            exact decide_eq_false (by have := of_decide_eq_true this; omega)
                          by_cases hle : zlevel = level
                          · by_cases hl0 : 0 < level
                            · obtain ⟨b6, hb6⟩ : ∃ b6, lessB zlast first = b6 := ⟨_, rfl⟩
                              have HB6L := Lib.hid hb6
                              have hles : (zlevel == level) = true := by simp [hle]
                              have hlos : decide (0 < level) = true := decide_eq_true hl0
                              have hcc : condAt next (ts.take (p + 1)) ⟨num, level, count, first, last⟩ = b6 := by
                                rw [hcva.out, hah, hb6, decide_eq_true ⟨hle, hl0⟩]
                                cases b6 <;> rfl
                              have HCC := Lib.hid hcc
                              have hlessC := less_any ZB YA n4 n1 zb ca zlast first w8 (by rw [← HN4.out]; exact (HZO.out.mod0 HM8.out).b) (by rw [← HN1.out]; exact (HYM.out.mod0 (HM06.out.trans0 HM8.out)).a)
                              rw [hb6] at hlessC
                              have HLC := Lib.hid hlessC
                              clear hb6 hcc hlessC hle hl0 hah
                              cases b6 with
                              | false =>
                                have HR1 := Lib.hid (hret.out HCC.out)
                                clear hret
                                go_wp2_with (go_at_call 64; refine HLC.out.mono ?_; rintro e w9 ⟨rfl, rfl⟩)
                                go_ret
                                exact ⟨by rw [HR1.out]; rfl, HM06.out.trans0 HM8.out⟩
                              | true =>
                                have HNM := Lib.hid (hnextM.out w8 HM8.out HCC.out)
                                clear hret hnextM
                                go_wp2_with (go_at_call 64; refine HLC.out.mono ?_; rintro e w9 ⟨rfl, rfl⟩)
                                go_roundw
                                case rel => exact ⟨p + 1 + 1, by omega, by go_num, HNM.out⟩
                                case measure => simp [intOf]; omega
                            · have hles : (zlevel == level) = true := by simp [hle]
                              have hlos : decide (0 < level) = false := decide_eq_false hl0
                              have hcc : condAt next (ts.take (p + 1)) ⟨num, level, count, first, last⟩ = true := by
                                rw [hcva.out, hah, decide_eq_false (fun h => hl0 h.2)]
                                rfl
                              have HNM := Lib.hid (hnextM.out w8 HM8.out hcc)
                              clear hret hnextM hcc hle hl0 hah
                              go_wp2_with fail
                              go_roundw
                              case rel => exact ⟨p + 1 + 1, by omega, by go_num, HNM.out⟩
                              case measure => simp [intOf]; omega
                          · have hles : (zlevel == level) = false := beq_eq_false_iff_ne.2 hle
                            have hcc : condAt next (ts.take (p + 1)) ⟨num, level, count, first, last⟩ = true := by
                              rw [hcva.out, hah, decide_eq_false (fun h => hle h.1)]
                              rfl
                            have HNM := Lib.hid (hnextM.out w8 HM8.out hcc)
                            clear hret hnextM hcc hle hah
                            go_wp2_with fail
                            go_roundw
                            case rel => exact ⟨p + 1 + 1, by omega, by go_num, HNM.out⟩
                            case measure => simp [intOf]; omega
                    · have hnd : decide (next ≤ num) = true := decide_eq_true (by omega)
                      have HR1 := Lib.hid (hret.out (by rw [HCV.out, decide_eq_false hnx]; rfl))
                      clear hret hnx
                      go_wp2_with fail
                      go_ret
                      exact ⟨by rw [HR1.out]; rfl, HM06.out⟩
              · obtain rfl : k = n := by omega
                have heq : tabsAll next [] ts = true := by
                  rw [HP.out.eq, List.drop_eq_nil_of_le (by rw [HTL.out]; omega)]
                  rfl
                have hfin := HR2.out true heq
                have HF := Lib.hid hfin
                clear heq hfin
                go_wp2_with fail
                go_ret
                exact ⟨by rw [HF.out]; rfl, HP.out.mod⟩
          · have q5d : decide (4096 < (n : Int)) = true := decide_eq_true (by omega)
            go_enter Tryz.func22, Tryz.ntmps22
            go_wp2_with (first
                | (go_at_call 61
                   (with_reducible refine (inN_any gen _).mono ?_)
                   rw [HB1.out]
                   rintro e w1 ⟨rfl, rfl⟩)
                | (go_at_call 61
                   (with_reducible refine (inN_any next _).mono ?_)
                   rw [HB2.out]
                   rintro e w1 ⟨rfl, rfl⟩)
                | (go_at_call 61
                   (with_reducible refine (inN_any log _).mono ?_)
                   rw [HB3.out]
                   rintro e w1 ⟨rfl, rfl⟩)
                | (go_at_call 61
                   (with_reducible refine (inN_any seq _).mono ?_)
                   rw [HB4.out]
                   rintro e w1 ⟨rfl, rfl⟩))
            go_ret
            exact ⟨by rw [← HR.out, if_neg (by unfold checkV; rw [HHD.out false (by simp [*])]; simp)]; rfl, HMA.out⟩

end Go.Proofs.YtdpjnpjmokncdaaGreatDoor
