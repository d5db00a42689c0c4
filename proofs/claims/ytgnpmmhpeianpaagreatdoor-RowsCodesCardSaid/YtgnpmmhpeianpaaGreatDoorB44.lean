/- sawyerref18.DecodeHead. -/
import Derived.Test.YtgnpmmhpeianpaaGreatDoorB38
import Derived.Test.YtgnpmmhpeianpaaGreatDoorB39
import Derived.Test.YtgnpmmhpeianpaaGreatDoorB31
import Derived.Deep.RegionHeld3
import Derived.Test.YtgnpmmhpeianpaaGreatDoorB26
import Derived.Test.YtgnpmmhpeianpaaGreatDoorB30
namespace Go.Proofs.YtgnpmmhpeianpaaGreatDoor
open Go.RowKit

theorem takeAllQ_any (A : Option Addr) (n c : Nat) (l : List UInt8) (w : World) (h : Rd w A n (by8 l)) (hnc : n ≤ c) (hn : n ≤ 140737488351232) (hcm : c ≤ 9223372036854775807) :
    Calls Tryz.prog 37 #[.slice A n c, .int .i64 3] w fun e w' => ∃ X A2 n2 c2 q is, e = .returned (.tuple #[X, .slice A2 n2 c2, .bool is]) ∧ TkAll l w w' X A2 n2 c2 q is := by
  have hll : l.length = n := by simpa using h.1
  refine (takeQ_any A n c l 3 w h hnc (by omega) hcm (by omega)).mono ?_
  intro e w' ht
  unfold TkPost at ht
  cases htn : takeN 3 l with
  | none =>
    rw [htn] at ht
    obtain ⟨rfl, hm⟩ := ht
    exact ⟨_, none, 0, 0, [], false, rfl, ⟨Rd.nil _ _, ⟨Nat.le_refl _, by omega, by omega⟩, hm, fun _ => ⟨htn, rfl⟩, fun h => by cases h⟩⟩
  | some p =>
    obtain ⟨ms, q⟩ := p
    have hml := takeN_len htn
    have hql := takeN_rest htn
    rw [htn] at ht
    obtain ⟨A1, c1, A2, n2, c2, rfl, hr1, _, hq2, hr2, ⟨hc2, hc2', _⟩, hm⟩ := ht
    match ms, hml with
    | [a, b, d], _ => exact ⟨_, A2, n2, c2, q, true, rfl, ⟨hr2, ⟨hc2, hc2', by omega⟩, hm, fun h => (by cases h), fun _ => ⟨a, b, d, A1, c1, htn, rfl, hr1⟩⟩⟩

set_option maxRecDepth 100000 in
set_option maxHeartbeats 4000000 in
theorem decHeadQ_bad (A : Option Addr) (n c : Nat) (l : List UInt8) (w : World) (h : Rd w A n (by8 l)) (hnc : n ≤ c) (hn : n ≤ 140737488351232) (hcm : c ≤ 9223372036854775807)
    (hbad : ∀ ms q, takeN 3 l = some (ms, q) → q.length < 64 ∨ q.length % 32 ≠ 0 ∨ 4096 < q.length) :
    Calls Tryz.prog 17 #[.slice A n c] w (DhPost l w) := by
  obtain ⟨w0, hw0⟩ : ∃ w0, w0 = w.alloc (.cells (hCells 0 ⟨#[]⟩ 0 0 none 0 0 ⟨#[]⟩) 26) := ⟨_, rfl⟩
  have hb0 : Blk w0 w.heap.size 26 (hCells 0 ⟨#[]⟩ 0 0 none 0 0 ⟨#[]⟩) := by rw [hw0]; exact Blk.new _ _ _
  have hm0 : Mod Non w w0 := by rw [hw0]; exact (Mod.refl Non w).alloc _
  have HM0 := Lib.hid hm0
  have HB0 := Lib.hid hb0
  have HT := Lib.hid (takeAllQ_any A n c l w0 (h.mod0 hm0) hnc hn hcm)
  unfold hCells at hw0
  have HW0 := Lib.hid hw0
  have HBAD := Lib.hid hbad
  clear hb0 hm0 hw0 h hnc hn hcm hbad
  go_enter Tryz.func17, Tryz.ntmps17
  go_wp2_with fail
  rw [← HW0.out]
  refine HT.out.mono ?_
  rintro r w1 ⟨X4, A2, n2, c2, q, is, rfl, ht⟩
  have HTK := Lib.hid ht
  have HM1 := Lib.hid (HM0.out.trans0 ht.mod)
  have hb1 := HB0.out.mod ht.mod fun h => h
  unfold hCells at hb1
  have HB1 := Lib.hid hb1
  obtain ⟨hc2, hc2', hn2⟩ := ht.c2
  have hql : q.length = n2 := by simpa using ht.rd.1
  have HQL := Lib.hid hql
  have r0 : w1.cell? ⟨w.heap.size, 0, none⟩ = some (.int .i64 0) := hb1.cell 0
  have fr0 := hb1.frozen 0
  have r1 : w1.cell? ⟨w.heap.size, 1, none⟩ = some (.string ⟨#[]⟩) := hb1.cell 1
  have fr1 := hb1.frozen 1
  have r2 : w1.cell? ⟨w.heap.size, 2, none⟩ = some (.int .i64 0) := hb1.cell 2
  have fr2 := hb1.frozen 2
  have r3 : w1.cell? ⟨w.heap.size, 3, none⟩ = some (.int .i64 0) := hb1.cell 3
  have fr3 := hb1.frozen 3
  have r4 : w1.cell? ⟨w.heap.size, 4, none⟩ = some (.slice none 0 0) := hb1.cell 4
  have fr4 := hb1.frozen 4
  have r5 : w1.cell? ⟨w.heap.size, 5, none⟩ = some (.string ⟨#[]⟩) := hb1.cell 5
  have fr5 := hb1.frozen 5
  clear ht hql hb1
  cases is with
  | false =>
    have HN : Hid (decH l = none) := Lib.hid (by unfold decH; rw [(HTK.out.no rfl).1])
    go_wp2_with fail
    have HBZ := Lib.hid ((((((HB1.out.set_ 0 (.int .i64 0)).set_ 1 (.string ⟨#[]⟩)).set_ 2 (.int .i64 0)).set_ 3 (.int .i64 0)).set_ 4 (.slice none 0 0)).set_ 5 (.string ⟨#[]⟩))
    have HMZ := Lib.hid ((((((HM1.out.setCell (p := ⟨w.heap.size, 0, none⟩) (.inr (by simp only; omega)) (.int .i64 0)).setCell (p := ⟨w.heap.size, 1, none⟩) (.inr (by simp only; omega)) (.string ⟨#[]⟩)).setCell (p := ⟨w.heap.size, 2, none⟩) (.inr (by simp only; omega)) (.int .i64 0)).setCell (p := ⟨w.heap.size, 3, none⟩) (.inr (by simp only; omega)) (.int .i64 0)).setCell (p := ⟨w.heap.size, 4, none⟩) (.inr (by simp only; omega)) (.slice none 0 0)).setCell (p := ⟨w.heap.size, 5, none⟩) (.inr (by simp only; omega)) (.string ⟨#[]⟩))
    refine bodyPost_ret (results_rowtmp rfl _ _ w.heap.size 26 _ _ rfl HBZ.out Tryz.underlying26 rfl (by kernel_rfl) (.int .i64 2) rfl) rfl ?_
    unfold DhPost
    rw [HN.out]
    exact ⟨rfl, HMZ.out⟩
  | true =>
    obtain ⟨a, b, d, A1, c1, htn, rfl, hr1⟩ := HTK.out.yes rfl
    have hbd := HBAD.out _ _ htn
    have HN := Lib.hid (decH_bad l _ q htn hbd)
    rw [HQL.out] at hbd
    clear hr1 htn HTK
    by_cases h1 : n2 < 64
    · have d1 : decide ((n2 : Int) < 64) = true := decide_eq_true (by omega)
      go_wp2_with fail
      have HBZ := Lib.hid ((((((HB1.out.set_ 0 (.int .i64 0)).set_ 1 (.string ⟨#[]⟩)).set_ 2 (.int .i64 0)).set_ 3 (.int .i64 0)).set_ 4 (.slice none 0 0)).set_ 5 (.string ⟨#[]⟩))
      have HMZ := Lib.hid ((((((HM1.out.setCell (p := ⟨w.heap.size, 0, none⟩) (.inr (by simp only; omega)) (.int .i64 0)).setCell (p := ⟨w.heap.size, 1, none⟩) (.inr (by simp only; omega)) (.string ⟨#[]⟩)).setCell (p := ⟨w.heap.size, 2, none⟩) (.inr (by simp only; omega)) (.int .i64 0)).setCell (p := ⟨w.heap.size, 3, none⟩) (.inr (by simp only; omega)) (.int .i64 0)).setCell (p := ⟨w.heap.size, 4, none⟩) (.inr (by simp only; omega)) (.slice none 0 0)).setCell (p := ⟨w.heap.size, 5, none⟩) (.inr (by simp only; omega)) (.string ⟨#[]⟩))
      refine bodyPost_ret (results_rowtmp rfl _ _ w.heap.size 26 _ _ rfl HBZ.out Tryz.underlying26 rfl (by kernel_rfl) (.int .i64 2) rfl) rfl ?_
      unfold DhPost
      rw [HN.out]
      exact ⟨rfl, HMZ.out⟩
    · have d1 : decide ((n2 : Int) < 64) = false := decide_eq_false (by omega)
      by_cases h2 : n2 % 32 = 0
      · have d2 : ((n2 : Int).tmod 32 != 0) = false := by
          rw [Int.tmod_eq_emod_of_nonneg (by omega)]
          simp only [bne_eq_false_iff_eq]
          omega
        have d3 : decide ((n2 : Int) > 4096) = true := decide_eq_true (by omega)
        have d4 : decide (4096 < (n2 : Int)) = true := decide_eq_true (by omega)
        go_wp2_with fail
        have HBZ := Lib.hid ((((((HB1.out.set_ 0 (.int .i64 0)).set_ 1 (.string ⟨#[]⟩)).set_ 2 (.int .i64 0)).set_ 3 (.int .i64 0)).set_ 4 (.slice none 0 0)).set_ 5 (.string ⟨#[]⟩))
        have HMZ := Lib.hid ((((((HM1.out.setCell (p := ⟨w.heap.size, 0, none⟩) (.inr (by simp only; omega)) (.int .i64 0)).setCell (p := ⟨w.heap.size, 1, none⟩) (.inr (by simp only; omega)) (.string ⟨#[]⟩)).setCell (p := ⟨w.heap.size, 2, none⟩) (.inr (by simp only; omega)) (.int .i64 0)).setCell (p := ⟨w.heap.size, 3, none⟩) (.inr (by simp only; omega)) (.int .i64 0)).setCell (p := ⟨w.heap.size, 4, none⟩) (.inr (by simp only; omega)) (.slice none 0 0)).setCell (p := ⟨w.heap.size, 5, none⟩) (.inr (by simp only; omega)) (.string ⟨#[]⟩))
        refine bodyPost_ret (results_rowtmp rfl _ _ w.heap.size 26 _ _ rfl HBZ.out Tryz.underlying26 rfl (by kernel_rfl) (.int .i64 2) rfl) rfl ?_
        unfold DhPost
        rw [HN.out]
        exact ⟨rfl, HMZ.out⟩
      · have d2 : ((n2 : Int).tmod 32 != 0) = true := by
          rw [Int.tmod_eq_emod_of_nonneg (by omega)]
          simp only [bne_iff_ne, ne_eq]
          omega
        go_wp2_with fail
        have HBZ := Lib.hid ((((((HB1.out.set_ 0 (.int .i64 0)).set_ 1 (.string ⟨#[]⟩)).set_ 2 (.int .i64 0)).set_ 3 (.int .i64 0)).set_ 4 (.slice none 0 0)).set_ 5 (.string ⟨#[]⟩))
        have HMZ := Lib.hid ((((((HM1.out.setCell (p := ⟨w.heap.size, 0, none⟩) (.inr (by simp only; omega)) (.int .i64 0)).setCell (p := ⟨w.heap.size, 1, none⟩) (.inr (by simp only; omega)) (.string ⟨#[]⟩)).setCell (p := ⟨w.heap.size, 2, none⟩) (.inr (by simp only; omega)) (.int .i64 0)).setCell (p := ⟨w.heap.size, 3, none⟩) (.inr (by simp only; omega)) (.int .i64 0)).setCell (p := ⟨w.heap.size, 4, none⟩) (.inr (by simp only; omega)) (.slice none 0 0)).setCell (p := ⟨w.heap.size, 5, none⟩) (.inr (by simp only; omega)) (.string ⟨#[]⟩))
        refine bodyPost_ret (results_rowtmp rfl _ _ w.heap.size 26 _ _ rfl HBZ.out Tryz.underlying26 rfl (by kernel_rfl) (.int .i64 2) rfl) rfl ?_
        unfold DhPost
        rw [HN.out]
        exact ⟨rfl, HMZ.out⟩

end Go.Proofs.YtgnpmmhpeianpaaGreatDoor

/- sawyerref18.DecodeHead where the bytes may be a head. -/
namespace Go.Proofs.YtgnpmmhpeianpaaGreatDoor
open Go.RowKit

/-- the piece number j of bytes. -/
def pieceH (q : List UInt8) (j : Nat) : List UInt8 := (q.drop (32 * j)).take 32
theorem rd_piece {w : World} {g o n : Nat} {q : List UInt8} (h : Rd w (some ⟨g, o, none⟩) n (by8 q)) (j : Nat) (hj : 32 * j + 32 ≤ n) : Rd w (some ⟨g, o + 32 * j, none⟩) 32 (by8 (pieceH q j)) := by
  have hc := h.cut (k := 32 * j) (cap := n) (by omega) (Nat.le_refl _)
  rw [if_neg (by omega), ← by8_drop] at hc
  have ht := hc.take (k := 32) (by omega)
  rw [← by8_take] at ht
  have e : Option.map (fun x : Addr => x.add (32 * j)) (some ⟨g, o, none⟩) = some ⟨g, o + 32 * j, none⟩ := by
    simp only [Option.map_some, Addr.add]
    split
    · rename_i e; simp_all
    · simp
  rw [e] at ht
  exact ht
theorem conv_piece {w : World} {g o n : Nat} {q : List UInt8} (h : Rd w (some ⟨g, o, none⟩) n (by8 q)) (j : Nat) (hj : 32 * j + 32 ≤ n) (o' cc : Nat) (ho : o' = o + 32 * j) :
    (convert 27 9 (.slice (some ⟨g, o', none⟩) 32 cc)).run Tryz.prog w = .ok (.string (toT (pieceH q j))) w := by
  subst ho
  exact conv_str (P := Tryz.prog) w 27 9 5 _ 32 cc (pieceH q j) Tryz.underlying27 Tryz.underlying5 Tryz.underlying9 (rd_piece h j hj)

/-- the pieces, told by number. -/
theorem texts_pieces (q : List UInt8) (k : Nat) (hk : q.length = 64 + 32 * k) : textsH q = toT (pieceH q 0) :: toT (pieceH q 1) :: (List.range k).map fun j => toT (pieceH q (j + 2)) := by
  have hl := textsH_len q (by omega)
  refine List.ext_getElem? fun i => ?_
  by_cases hi : 32 * i < q.length
  · rw [textsH_get q i hi]
    match i with
    | 0 => rfl
    | 1 => rfl
    | i + 2 =>
      rw [List.getElem?_cons_succ, List.getElem?_cons_succ, List.getElem?_map, List.getElem?_range (by omega)]
      rfl
  · rw [List.getElem?_eq_none (by omega), List.getElem?_eq_none (by simp only [List.length_cons, List.length_map, List.length_range]; omega)]

/-- 'append(v, x...)', v a row of one's own, as one operation. -/
theorem wp_appOwn {P : Program} (w : World) {o : Oper} {a : Act} {K : Act → World → Prop} {Q : Exit → Act → World → Prop} (s x : Operand) (t : TypeId)
    (ho : o.op = .call { callee := .builtin .append, args := #[s, x], argTypes := #[t, t] })
    (base : Nat) (e : TypeId) (i : TypeInfo) (z : Value) (size bytes : Nat) (ht : P.underlying t = some (.slice e)) (hi : P.info? e = some i) (hz : i.zero = some z)
    (hsize : i.size = size) (hby : i.bytes = bytes) (hzs : z.cells.size = size) (hsz : 0 < size)
    (v : Value) (n : Nat) (xs : List Value) (hs : a.eval s = v) (hown : w.ownsRow base e size v n xs)
    (ad : Addr) (m c : Nat) (news : List Value) (hx : a.eval x = .slice (some ad) m c) (hl : news.length = m * size) (hnews : ∀ j u, news[j]? = some u → w.cell? (ad.add j) = some u) (h1 : ∀ u ∈ news, u.oneCell' = true)
    (h63 : n + m ≤ maxLen) (hbytes : (n + m) * bytes ≤ 140737488355328) (hbase : base ≤ w.heap.size)
    (h : ∀ A' c' w', w'.ownsRow base e size (.slice A' (n + m) c') (n + m) (xs ++ news) → w.grownBy w' v.ownBlock → K (a.put o.dst (.slice A' (n + m) c')) w') : o.wp P a w K Q := by
  obtain ⟨v', w', hr, h2, h3, h4⟩ := run_append_own (P := P) w base t o.type e i z size bytes ht hi hz hsize hby hzs hsz v n xs hown ad m c news hl hnews h1 h63 hbytes hbase
  obtain ⟨A', c', rfl, _, _⟩ := own_slice h2
  unfold Oper.wp execOp
  simp only [ho, resolve, invoke, builtin, Sem.run_bind, Sem.run_pure, Result.andThen_ok, List.map_toArray, List.map_cons, List.map_nil, hs, hx, hr]
  exact h A' c' w' h2 h3

theorem step_appOwn {P : Program} (w : World) {ops : Array Oper} {o : Oper} {a : Act} {K : Act → World → Prop} {Q : Exit → Act → World → Prop} {Z : Prop} (hgd : o.guard = none) (s x : Operand) (t : TypeId)
    (ho : o.op = .call { callee := .builtin .append, args := #[s, x], argTypes := #[t, t] })
    (base : Nat) (e : TypeId) (i : TypeInfo) (z : Value) (size bytes : Nat) (ht : P.underlying t = some (.slice e)) (hi : P.info? e = some i) (hz : i.zero = some z)
    (hsize : i.size = size) (hby : i.bytes = bytes) (hzs : z.cells.size = size) (hsz : 0 < size)
    (v : Value) (n : Nat) (xs : List Value) (hs : a.eval s = v) (hown : w.ownsRow base e size v n xs)
    (ad : Addr) (m c : Nat) (news : List Value) (hx : a.eval x = .slice (some ad) m c) (hl : news.length = m * size) (hnews : ∀ j u, news[j]? = some u → w.cell? (ad.add j) = some u) (h1 : ∀ u ∈ news, u.oneCell' = true)
    (h63 : n + m ≤ maxLen) (hbytes : (n + m) * bytes ≤ 140737488355328) (hbase : base ≤ w.heap.size)
    (h : ∀ A' c' w', w'.ownsRow base e size (.slice A' (n + m) c') (n + m) (xs ++ news) → w.grownBy w' v.ownBlock → K (a.put o.dst (.slice A' (n + m) c')) w') : if Region.wanted o (yielded ops a.tmps) = true then Oper.wp P o a w K Q else Z := by
  have hw : Region.wanted o (yielded ops a.tmps) = true := by simp [Region.wanted, hgd]
  rw [if_pos hw]
  exact wp_appOwn w s x t ho base e i z size bytes ht hi hz hsize hby hzs hsz v n xs hs hown ad m c news hx hl hnews h1 h63 hbytes hbase h
theorem grown_blk {w w9 : World} {g base n s : Nat} {t e : TypeId} {cs : Array Value} {v : Value} {xs : List Value} {o : Obj} (hb : Blk w g t cs) (ho : w.ownsRow base e s v n xs) (hg : g + 1 ≤ base) (h : (World.alloc w.drew o).grownBy w9 v.ownBlock) : Blk w9 g t cs :=
  (hb.drew.alloc o).mod (Mod.of_grown (S := fun k => v.ownBlock = some k) h fun _ e => e) fun e => by have := (ho.lt _ e).1; omega

set_option maxRecDepth 100000 in
set_option maxHeartbeats 4000000 in
theorem decHeadQ_good (A : Option Addr) (n c : Nat) (l : List UInt8) (w : World) (h : Rd w A n (by8 l)) (hnc : n ≤ c) (hn : n ≤ 140737488351232) (hcm : c ≤ 9223372036854775807)
    (ms : List Nat) (q : List UInt8) (hms : takeN 3 l = some (ms, q)) (hq1 : 64 ≤ q.length) (hq2 : q.length % 32 = 0) (hq3 : q.length ≤ 4096) :
    Calls Tryz.prog 17 #[.slice A n c] w (DhPost l w) := by
  obtain ⟨w0, hw0⟩ : ∃ w0, w0 = w.alloc (.cells (hCells 0 ⟨#[]⟩ 0 0 none 0 0 ⟨#[]⟩) 26) := ⟨_, rfl⟩
  have hb0 : Blk w0 w.heap.size 26 (hCells 0 ⟨#[]⟩ 0 0 none 0 0 ⟨#[]⟩) := by rw [hw0]; exact Blk.new _ _ _
  have hm0 : Mod Non w w0 := by rw [hw0]; exact (Mod.refl Non w).alloc _
  have HM0 := Lib.hid hm0
  have HB0 := Lib.hid hb0
  have HT := Lib.hid (takeAllQ_any A n c l w0 (h.mod0 hm0) hnc hn hcm)
  unfold hCells at hw0
  have HW0 := Lib.hid hw0
  have HMS := Lib.hid hms
  clear hb0 hm0 hw0 h hnc hn hcm hms
  go_enter Tryz.func17, Tryz.ntmps17
  go_wp2_with fail
  rw [← HW0.out]
  refine HT.out.mono ?_
  rintro r w1 ⟨X4, A2, n2, c2, q', is, rfl, ht⟩
  cases is with
  | false =>
    have := (ht.no rfl).1
    rw [HMS.out] at this
    cases this
  | true =>
    obtain ⟨a, b, d, A1, c1, htn, rfl, hr1⟩ := ht.yes rfl
    have heq := HMS.out.symm.trans htn
    cases heq
    have HM1 := Lib.hid (HM0.out.trans0 ht.mod)
    have hb1 := HB0.out.mod ht.mod fun h => h
    unfold hCells at hb1
    have HB1 := Lib.hid hb1
    obtain ⟨hc2, hc2', hn2⟩ := ht.c2
    have hql : q.length = n2 := by simpa using ht.rd.1
    rw [hql] at hq1 hq2 hq3
    obtain ⟨g2, o2, rfl, _⟩ := ht.rd.2 (by omega)
    have HRQ := Lib.hid ht.rd
    have HR1 := Lib.hid hr1
    obtain ⟨B, O, rfl, k0, k1, k2⟩ := rd3 hr1
    have HQL := Lib.hid hql
    clear hb1 ht hr1 htn hql
    have d1 : decide ((n2 : Int) < 64) = false := decide_eq_false (by omega)
    have d2 : ((n2 : Int).tmod 32 != 0) = false := by
      rw [Int.tmod_eq_emod_of_nonneg (by omega)]
      simp only [bne_eq_false_iff_eq]
      omega
    have d3 : decide ((n2 : Int) > 4096) = false := decide_eq_false (by omega)
    have d4 : decide (4096 < (n2 : Int)) = false := decide_eq_false (by omega)
    have i1 : (32 : Int) ≤ (c2 : Int) := by omega
    have i2 : (64 : Int) ≤ (c2 : Int) := by omega
    have i3 : ¬ (c2 : Int) = 32 := by omega
    have i4 : ¬ c2 = 32 := by omega
    have i5 : (c2 == 32) = false := by simpa using i4
    have i6 : c2 - 32 ≠ 0 := by omega
    obtain ⟨T0, hT0⟩ : ∃ x, x = toT (pieceH q 0) := ⟨_, rfl⟩
    obtain ⟨T1, hT1⟩ : ∃ x, x = toT (pieceH q 1) := ⟨_, rfl⟩
    have v0 : ∀ W, Mod Non w1 W → (convert 27 9 (.slice (some ⟨g2, o2, none⟩) 32 c2)).run Tryz.prog W = .ok (.string T0) W := fun W hW => by rw [hT0]; exact conv_piece (HRQ.out.mod0 hW) 0 (by omega) _ _ (by omega)
    have v1 : ∀ W, Mod Non w1 W → (convert 27 9 (.slice (some ⟨g2, o2 + 32, none⟩) 32 (c2 - 32))).run Tryz.prog W = .ok (.string T1) W := fun W hW => by rw [hT1]; exact conv_piece (HRQ.out.mod0 hW) 1 (by omega) _ _ (by omega)
    have HV0 := Lib.hid v0
    have HV1 := Lib.hid v1
    have HT0 := Lib.hid hT0
    have HT1 := Lib.hid hT1
    have HKS : Hid (∀ W, Mod Non w1 W → W.cell? ⟨B, O, none⟩ = some (.int .i64 (a : Int)) ∧ W.cell? ⟨B, O + 1, none⟩ = some (.int .i64 (b : Int)) ∧ W.cell? ⟨B, O + 2, none⟩ = some (.int .i64 (d : Int)) ∧ (convert 27 9 (.slice (some ⟨g2, o2, none⟩) 32 c2)).run Tryz.prog W = .ok (.string T0) W ∧ (convert 27 9 (.slice (some ⟨g2, o2 + 32, none⟩) 32 (c2 - 32))).run Tryz.prog W = .ok (.string T1) W) :=
      fun W hW => ⟨hW.cell k0 fun h => h, hW.cell k1 fun h => h, hW.cell k2 fun h => h, HV0.out W hW, HV1.out W hW⟩
    clear v0 v1 hT0 hT1
    go_wp2_with fail
    go_region_held3 (fun w' => w'.cell? ⟨B, O, none⟩ = some (.int .i64 (a : Int)) ∧ w'.cell? ⟨B, O + 1, none⟩ = some (.int .i64 (b : Int)) ∧ w'.cell? ⟨B, O + 2, none⟩ = some (.int .i64 (d : Int)) ∧ (convert 27 9 (.slice (some ⟨g2, o2, none⟩) 32 c2)).run Tryz.prog w' = .ok (.string T0) w' ∧ (convert 27 9 (.slice (some ⟨g2, o2 + 32, none⟩) 32 (c2 - 32))).run Tryz.prog w' = .ok (.string T1) w') (first | exact HKS.out _ (Mod.refl _ _).drew | exact HKS.out _ (((Mod.refl _ _).drew).alloc _)) (first | fail)
    obtain ⟨w4, hw4⟩ : ∃ w4, w4 = (w1.alloc (.cells #[.int .i64 (a : Int), .string T0, .int .i64 (b : Int), .int .i64 (d : Int), .slice none 0 0, .string T1] 26)).drew := ⟨_, rfl⟩
    have hm4 : Mod Non w1 w4 := by rw [hw4]; exact ((Mod.refl Non w1).alloc _).drew
    have hx4 : Blk w4 w1.heap.size 26 #[.int .i64 (a : Int), .string T0, .int .i64 (b : Int), .int .i64 (d : Int), .slice none 0 0, .string T1] := by rw [hw4]; exact (Blk.new w1 _ _).drew
    have hz4 : w4.heap.size = w1.heap.size + 1 := by rw [hw4]; simp only [World.size_drew, World.size_alloc]
    rw [← hw4]
    have HX4 := Lib.hid hx4
    have HM4 := Lib.hid hm4
    have HZ4 := Lib.hid hz4
    clear hw4 hm4 hx4 hz4 k0 k1 k2
    go_wp2_with fail
    go_loopw [8] (fun i wr => ∃ (k cq : Nat) (Aq : Option Addr), 64 + 32 * k ≤ n2 ∧ i = .int .i64 ((64 + 32 * k : Nat) : Int) ∧ Hid (Blk wr w1.heap.size 26 #[.int .i64 (a : Int), .string T0, .int .i64 (b : Int), .int .i64 (d : Int), .slice Aq k cq, .string T1]) ∧ Hid (wr.ownsRow (w1.heap.size + 1) 9 1 (.slice Aq k cq) k ((List.range k).map fun j => Value.string (toT (pieceH q (j + 2))))) ∧ Hid (Mod Non w1 wr)) (fun i _ => n2 - (intOf i).toNat)
    case atStart => exact ⟨0, 0, none, hq1, rfl, HX4, ⟨rfl, .inl ⟨rfl, rfl⟩⟩, HM4⟩
    case round =>
      obtain ⟨k, cq, Aq, hk, rfl, HBr, HOr, HMr⟩ := hrel
      rename World => wr
      have y0 := HBr.out.cell 0
      have y1 := HBr.out.cell 1
      have y2 := HBr.out.cell 2
      have y3 := HBr.out.cell 3
      have y4 : wr.cell? ⟨w1.heap.size, 4, none⟩ = some (.slice Aq k cq) := HBr.out.cell 4
      have y5 := HBr.out.cell 5
      by_cases hlt : 64 + 32 * k < n2
      · obtain ⟨p, hp⟩ : ∃ p, 64 + 32 * k = p := ⟨_, rfl⟩
        rw [hp]
        have l1 : decide ((p : Int) < (n2 : Int)) = true := decide_eq_true (by omega)
        have l0 : p < n2 := by omega
        obtain ⟨sv, hsv⟩ : ∃ x, x = toT (pieceH q (k + 2)) := ⟨_, rfl⟩
        have HCV : Hid (∀ W, Mod Non wr W → (convert 27 9 (.slice (some ⟨g2, o2 + p, none⟩) 32 (c2 - p))).run Tryz.prog W = .ok (.string sv) W) := fun W hW => by rw [hsv]; exact conv_piece (HRQ.out.mod0 (HMr.out.trans0 hW)) (k + 2) (by omega) _ _ (by omega)
        have HSV := Lib.hid hsv
        have hcv0 := HCV.out wr.drew (Mod.refl _ _).drew
        have y4d : wr.drew.cell? ⟨w1.heap.size, 4, none⟩ = some (.slice Aq k cq) := y4
        have hlx := HBr.out.lt
        have y4a : (World.alloc wr.drew (.cells #[.string sv] 9)).cell? ⟨w1.heap.size, 4, none⟩ = some (.slice Aq k cq) := ((Mod.refl Non wr).drew.alloc _).cell y4 fun h => h
        obtain ⟨iS, hiS, hzS, hsS, hbS⟩ := infoS
        have hmx : maxLen = 9223372036854775807 := rfl
        have u1 : IntKind.i64.wrap ((p : Int) + 32) = (p : Int) + 32 := IntWalk.i64_in _ (by constructor <;> omega)
        have u2 : (0 : Int) ≤ (p : Int) + 32 := by omega
        have u3 : (p : Int) + 32 ≤ (c2 : Int) := by omega
        have u4 : (0 : Int) ≤ (p : Int) := by omega
        have u6 : (p : Int) ≤ (p : Int) + 32 := by omega
        have u7 : max ((p : Int) + 32) 0 = (p : Int) + 32 := by omega
        have u8 : ((p : Int) + 32).toNat = p + 32 := by omega
        have u9 : p + 32 - p = 32 := by omega
        have u5 : ¬ c2 = p := by omega
        have hbas : w1.heap.size + 1 ≤ (World.alloc wr.drew (.cells #[.string sv] 9)).heap.size := by rw [World.size_alloc, World.size_drew]; omega
        have HP := Lib.hid hp
        have HLT := Lib.hid hlt
        have HQ2 := Lib.hid hq2
        have hown9 := (HOr.out.drew).alloc (.cells #[.string sv] 9)
        have HOWN := Lib.hid hown9
        have HB := Lib.hid hbas
        have k63 : k + 1 ≤ maxLen := by omega
        have kb : (k + 1) * 16 ≤ 140737488355328 := by omega
        clear hsv hown9 hbas HX4 HM4 HZ4 hp hlt
        go_wp2_with fail
        go_region_law
          (first
            | (refine step_appOwn _ rfl (.tmp 57) (.tmp 64) 24 rfl (w1.heap.size + 1) 9 iS (.string ⟨#[]⟩) 1 16 Tryz.underlying24 hiS hzS hsS hbS rfl (by decide) (.slice Aq k cq) k _ rfl HOWN.out ⟨wr.heap.size, 0, none⟩ 1 1 [.string sv] rfl rfl (cell_one_new _ _ _) (by simp [Value.oneCell']) k63 kb HB.out ?_
               intro A9 c9 w9 ho9 hg9
               have HB9 := Lib.hid (grown_blk HBr.out HOr.out (Nat.le_refl _) hg9)
               have HM9 := Lib.hid ((HMr.out.drew.alloc _).grown hg9 fun j hj => .inr (by have := (HOr.out.lt j hj).1; omega))
               have HO9 := Lib.hid ho9
               have y49 : w9.cell? ⟨w1.heap.size, 4, none⟩ = some (.slice Aq k cq) := HB9.out.cell 4
               have f49 : w9.frozen? ⟨w1.heap.size, 4, none⟩ = false := HB9.out.frozen 4
               clear ho9 hg9)
            | fail)
        all_goals
          obtain ⟨wz, hwz⟩ : ∃ wz, wz = w9.setCell ⟨w1.heap.size, 4, none⟩ (.slice A9 (k + 1) c9) := ⟨_, rfl⟩
          have HBz : Hid (Blk wz w1.heap.size 26 #[.int .i64 (a : Int), .string T0, .int .i64 (b : Int), .int .i64 (d : Int), .slice A9 (k + 1) c9, .string T1]) := by rw [hwz]; exact HB9.out.set_ 4 _
          have HOz : Hid (wz.ownsRow (w1.heap.size + 1) 9 1 (.slice A9 (k + 1) c9) (k + 1) ((List.range (k + 1)).map fun j => Value.string (toT (pieceH q (j + 2))))) := by
            rw [List.range_succ, List.map_append, hwz]
            have h9 := HO9.out
            rw [HSV.out] at h9
            exact own_mod h9 ((Mod.refl _ _).set1 4 _) fun b hb e => by
              have := (h9.lt b hb).1
              omega
          have HMz : Hid (Mod Non w1 wz) := by rw [hwz]; exact HM9.out.setCell (p := ⟨w1.heap.size, 4, none⟩) (.inr (Nat.le_refl _)) _
          rw [← hwz]
          have l2 := HLT.out
          have l3 := HQ2.out
          have l4 := HP.out
          have hnx : 64 + 32 * (k + 1) ≤ n2 := by omega
          clear hwz y49 f49 y4 y4d y4a hcv0
          go_wp2_with fail
          go_roundw
          case rel => exact ⟨k + 1, c9, A9, hnx, by rw [show 64 + 32 * (k + 1) = p + 32 by have := HP.out; omega]; go_num, HBz.out, HOz.out, HMz.out⟩
          case measure => simp [intOf]; omega
      · have l1 : decide (((64 + 32 * k : Nat) : Int) < (n2 : Int)) = false := decide_eq_false (by omega)
        have hkn : n2 = 64 + 32 * k := by omega
        have hts := texts_pieces q k (by rw [HQL.out]; exact hkn)
        obtain ⟨tr, htrd⟩ : ∃ x, x = (List.range k).map fun j => toT (pieceH q (j + 2)) := ⟨_, rfl⟩
        rw [← htrd, ← HT0.out, ← HT1.out] at hts
        have hrt : Rd wr Aq k (tr.map Value.string) := by
          have h9 := Rd.of_own HOr.out
          rw [htrd, List.map_map]
          exact h9
        have htl : tr.length = k := by rw [htrd]; simp
        obtain ⟨hq8, hq9⟩ : k ≤ cq ∧ cq ≤ maxLen := by
          obtain ⟨_, _, he, x1, x2⟩ := own_slice HOr.out
          cases he
          exact ⟨x1, x2⟩
        have hmx : maxLen = 9223372036854775807 := rfl
        obtain ⟨t, ht⟩ : ∃ t, headR (a : Int) T0 (b : Int) (d : Int) tr T1 = t := ⟨_, rfl⟩
        have htr := rightHead_any a T0 b d Aq k cq tr T1 wr hrt (by omega)
        rw [ht] at htr
        unfold hCells at htr
        have hdec : decH l = if headR (a : Int) T0 (b : Int) (d : Int) tr T1 = true then some ([a, b, d], T0 :: T1 :: tr) else none := by
          unfold decH
          rw [HMS.out]
          simp only
          rw [hts]
          simp only [List.getD_cons_zero, List.getD_cons_succ, List.drop_succ_cons, List.drop_zero, List.length_cons]
          by_cases hx : headR (a : Int) T0 (b : Int) (d : Int) tr T1 = true
          · rw [if_pos ⟨by omega, hx⟩, if_pos hx]
          · rw [if_neg (fun h => hx h.2), if_neg hx]
        have HTR := Lib.hid htr
        have HRT := Lib.hid hrt
        have HTS := Lib.hid hts
        have HHT := Lib.hid ht
        have HTL := Lib.hid htl
        have HDC := Lib.hid hdec
        clear htr hrt hts ht htl htrd hdec
        go_wp2_with fail
        refine HTR.out.mono ?_
        rintro r w6 ⟨rfl, hm6⟩
        have HM6 := Lib.hid ((HM1.out.trans0 HMr.out).trans0 hm6)
        have hb6 := HB1.out.mod (HMr.out.trans0 hm6) fun h => h
        have hx6 := HBr.out.mod hm6 fun h => h
        have HRT6 := Lib.hid (HRT.out.mod0 hm6)
        have HB6 := Lib.hid hb6
        have hlt6 := HB1.out.lt
        have hwx : w.heap.size ≠ w1.heap.size := by omega
        clear y0 y1 y2 y3 y4 y5
        have r0 : w6.cell? ⟨w.heap.size, 0, none⟩ = some (.int .i64 0) := hb6.cell 0
        have fr0 := hb6.frozen 0
        have r1 : w6.cell? ⟨w.heap.size, 1, none⟩ = some (.string ⟨#[]⟩) := hb6.cell 1
        have fr1 := hb6.frozen 1
        have r2 : w6.cell? ⟨w.heap.size, 2, none⟩ = some (.int .i64 0) := hb6.cell 2
        have fr2 := hb6.frozen 2
        have r3 : w6.cell? ⟨w.heap.size, 3, none⟩ = some (.int .i64 0) := hb6.cell 3
        have fr3 := hb6.frozen 3
        have r4 : w6.cell? ⟨w.heap.size, 4, none⟩ = some (.slice none 0 0) := hb6.cell 4
        have fr4 := hb6.frozen 4
        have r5 : w6.cell? ⟨w.heap.size, 5, none⟩ = some (.string ⟨#[]⟩) := hb6.cell 5
        have fr5 := hb6.frozen 5
        have y0 : w6.cell? ⟨w1.heap.size, 0, none⟩ = some (.int .i64 (a : Int)) := hx6.cell 0
        have y1 : w6.cell? ⟨w1.heap.size, 1, none⟩ = some (.string T0) := hx6.cell 1
        have y2 : w6.cell? ⟨w1.heap.size, 2, none⟩ = some (.int .i64 (b : Int)) := hx6.cell 2
        have y3 : w6.cell? ⟨w1.heap.size, 3, none⟩ = some (.int .i64 (d : Int)) := hx6.cell 3
        have y4 : w6.cell? ⟨w1.heap.size, 4, none⟩ = some (.slice Aq k cq) := hx6.cell 4
        have y5 : w6.cell? ⟨w1.heap.size, 5, none⟩ = some (.string T1) := hx6.cell 5
        clear hb6 hx6 hm6
        cases t with
        | false =>
          have HN : Hid (decH l = none) := Lib.hid (by rw [HDC.out, HHT.out, if_neg (by simp)])
          go_wp2_with fail
          have HBZ := Lib.hid ((((((HB6.out.set_ 0 (.int .i64 0)).set_ 1 (.string ⟨#[]⟩)).set_ 2 (.int .i64 0)).set_ 3 (.int .i64 0)).set_ 4 (.slice none 0 0)).set_ 5 (.string ⟨#[]⟩))
          have HMZ := Lib.hid ((((((HM6.out.setCell (p := ⟨w.heap.size, 0, none⟩) (.inr (by simp only; omega)) (.int .i64 0)).setCell (p := ⟨w.heap.size, 1, none⟩) (.inr (by simp only; omega)) (.string ⟨#[]⟩)).setCell (p := ⟨w.heap.size, 2, none⟩) (.inr (by simp only; omega)) (.int .i64 0)).setCell (p := ⟨w.heap.size, 3, none⟩) (.inr (by simp only; omega)) (.int .i64 0)).setCell (p := ⟨w.heap.size, 4, none⟩) (.inr (by simp only; omega)) (.slice none 0 0)).setCell (p := ⟨w.heap.size, 5, none⟩) (.inr (by simp only; omega)) (.string ⟨#[]⟩))
          refine bodyPost_ret (results_rowtmp rfl _ _ w.heap.size 26 _ _ rfl HBZ.out Tryz.underlying26 rfl (by kernel_rfl) (.int .i64 2) rfl) rfl ?_
          unfold DhPost
          rw [HN.out]
          exact ⟨rfl, HMZ.out⟩
        | true =>
          have HN : Hid (decH l = some ([a, b, d], T0 :: T1 :: tr)) := Lib.hid (by rw [HDC.out, HHT.out, if_pos rfl])
          go_wp2_with fail
          have HBZ := Lib.hid ((((((HB6.out.set_ 0 (.int .i64 (a : Int))).set_ 1 (.string T0)).set_ 2 (.int .i64 (b : Int))).set_ 3 (.int .i64 (d : Int))).set_ 4 (.slice Aq k cq)).set_ 5 (.string T1))
          have HMZ := Lib.hid ((((((HM6.out.setCell (p := ⟨w.heap.size, 0, none⟩) (.inr (by simp only; omega)) (.int .i64 (a : Int))).setCell (p := ⟨w.heap.size, 1, none⟩) (.inr (by simp only; omega)) (.string T0)).setCell (p := ⟨w.heap.size, 2, none⟩) (.inr (by simp only; omega)) (.int .i64 (b : Int))).setCell (p := ⟨w.heap.size, 3, none⟩) (.inr (by simp only; omega)) (.int .i64 (d : Int))).setCell (p := ⟨w.heap.size, 4, none⟩) (.inr (by simp only; omega)) (.slice Aq k cq)).setCell (p := ⟨w.heap.size, 5, none⟩) (.inr (by simp only; omega)) (.string T1))
          refine bodyPost_ret (results_rowtmp rfl _ _ w.heap.size 26 _ _ rfl HBZ.out Tryz.underlying26 rfl (by kernel_rfl) (.int .i64 0) rfl) rfl ?_
          unfold DhPost
          rw [HN.out]
          simp only [List.getD_cons_zero, List.getD_cons_succ]
          refine ⟨Aq, k, cq, rfl, by rw [List.length_cons, List.length_cons]; have := HTL.out; omega, ?_, hq8, by omega, HMZ.out⟩
          refine HRT6.out.mod (S := fun k => k = w.heap.size) ((((((Mod.refl _ _).set1 0 _).set1 1 _).set1 2 _).set1 3 _).set1 4 _ |>.set1 5 _) fun _ j hj e => ?_
          have := (HOr.out.lt j (by
            cases Aq with
            | none => simp [blkOf] at hj
            | some x => simpa [blkOf, Value.ownBlock] using hj)).1
          omega

end Go.Proofs.YtgnpmmhpeianpaaGreatDoor

/- sawyerref18.DecodeHead at whatever bytes; what the four functions answer, both sides in the same words. -/
namespace Go.Proofs.YtgnpmmhpeianpaaGreatDoor
open Go.RowKit

theorem decHeadQ_any (A : Option Addr) (n c : Nat) (l : List UInt8) (w : World) (h : Rd w A n (by8 l)) (hnc : n ≤ c) (hn : n ≤ 140737488351232) (hcm : c ≤ 9223372036854775807) :
    Calls Tryz.prog 17 #[.slice A n c] w (DhPost l w) := by
  cases ht : takeN 3 l with
  | none => exact decHeadQ_bad A n c l w h hnc hn hcm fun ms q he => by rw [ht] at he; cases he
  | some p =>
    obtain ⟨ms, q⟩ := p
    by_cases hg : 64 ≤ q.length ∧ q.length % 32 = 0 ∧ q.length ≤ 4096
    · exact decHeadQ_good A n c l w h hnc hn hcm ms q ht hg.1 hg.2.1 hg.2.2
    · refine decHeadQ_bad A n c l w h hnc hn hcm fun ms' q' he => ?_
      rw [ht] at he
      cases he
      omega

theorem et_form (id st q : Int) (nm ky : ByteArray) : ∃ (L : List UInt8) (E : Int), ∀ w e w', EtPost id st q nm ky w e w' → ∃ A' n' c', e = .returned (.tuple #[.slice A' n' c', .int .i64 E]) ∧ Rd w' A' n' (by8 L) ∧ Mod Non w w' := by
  by_cases ht : treeR id st q nm ky = true
  · refine ⟨encT id st q nm ky, 0, fun w e w' h => ?_⟩
    unfold EtPost at h
    rw [if_pos ht] at h
    obtain ⟨A', n', c', rfl, _, hr, _, _, hm⟩ := h
    exact ⟨A', n', c', rfl, hr, hm⟩
  · refine ⟨[], 1, fun w e w' h => ?_⟩
    unfold EtPost at h
    rw [if_neg ht] at h
    obtain ⟨rfl, hm⟩ := h
    exact ⟨none, 0, 0, rfl, Rd.nil _ _, hm⟩
theorem eh_form (sz : Int) (root : ByteArray) (tk ep : Int) (nodes : List ByteArray) (sig : ByteArray) : ∃ (L : List UInt8) (E : Int), ∀ w e w', EhPost sz root tk ep nodes sig w e w' → ∃ A' n' c', e = .returned (.tuple #[.slice A' n' c', .int .i64 E]) ∧ Rd w' A' n' (by8 L) ∧ Mod Non w w' := by
  by_cases ht : headR sz root tk ep nodes sig = true
  · refine ⟨encH sz root tk ep nodes sig, 0, fun w e w' h => ?_⟩
    unfold EhPost at h
    rw [if_pos ht] at h
    obtain ⟨A', n', c', rfl, _, hr, _, _, hm⟩ := h
    exact ⟨A', n', c', rfl, hr, hm⟩
  · refine ⟨[], 1, fun w e w' h => ?_⟩
    unfold EhPost at h
    rw [if_neg ht] at h
    obtain ⟨rfl, hm⟩ := h
    exact ⟨none, 0, 0, rfl, Rd.nil _ _, hm⟩
theorem dt_form (l : List UInt8) : ∃ (a b c : Int) (nm ky : ByteArray) (E : Int), ∀ w e w', DtPost l w e w' → e = .returned (.tuple #[.agg (tCells a b c nm ky), .int .i64 E]) ∧ Mod Non w w' := by
  cases hd : decT l with
  | none =>
    refine ⟨0, 0, 0, ⟨#[]⟩, ⟨#[]⟩, 2, fun w e w' h => ?_⟩
    unfold DtPost at h
    rw [hd] at h
    exact h
  | some p =>
    obtain ⟨ms, nm, ky⟩ := p
    refine ⟨(ms.getD 0 0 : Nat), (ms.getD 1 0 : Nat), (ms.getD 2 0 : Nat), ⟨nm.toArray⟩, ⟨ky.toArray⟩, 0, fun w e w' h => ?_⟩
    unfold DtPost at h
    rw [hd] at h
    exact h
theorem dh_form (l : List UInt8) : ∃ (sz : Int) (root : ByteArray) (tk ep : Int) (nodes : List ByteArray) (sig : ByteArray) (E : Int), ∀ w e w', DhPost l w e w' → ∃ A' n' c', e = .returned (.tuple #[.agg (hCells sz root tk ep A' n' c' sig), .int .i64 E]) ∧ n' ≤ 9223372036854775807 ∧ Rd w' A' n' (nodes.map Value.string) ∧ Mod Non w w' := by
  cases hd : decH l with
  | none =>
    refine ⟨0, ⟨#[]⟩, 0, 0, [], ⟨#[]⟩, 2, fun w e w' h => ?_⟩
    unfold DhPost at h
    rw [hd] at h
    obtain ⟨rfl, hm⟩ := h
    exact ⟨none, 0, 0, rfl, by omega, Rd.nil _ _, hm⟩
  | some p =>
    obtain ⟨ms, ts⟩ := p
    refine ⟨(ms.getD 0 0 : Nat), ts.getD 0 ⟨#[]⟩, (ms.getD 1 0 : Nat), (ms.getD 2 0 : Nat), ts.drop 2, ts.getD 1 ⟨#[]⟩, 0, fun w e w' h => ?_⟩
    unfold DhPost at h
    rw [hd] at h
    obtain ⟨A', n', c', rfl, _, hr, h1, h2, hm⟩ := h
    exact ⟨A', n', c', rfl, by omega, hr, hm⟩

end Go.Proofs.YtgnpmmhpeianpaaGreatDoor
