/- mine, theirs: a version copied, table by table. -/
import Derived.Test.YtdpjnpjmokncdaaGreatDoorB31
import Derived.Test.YtdpjnpjmokncdaaGreatDoorB32
import Derived.Test.YtdpjnpjmokncdaaGreatDoorB24
import Derived.Laws.Rows
import Derived.Test.YtdpjnpjmokncdaaGreatDoorB17
import Derived.BigQuiet
namespace Go.Proofs.YtdpjnpjmokncdaaGreatDoor
open Go.RowKit

/-- a version in memory that S leaves alone. -/
structure VwO (w : World) (S : Nat → Prop) (x : Vw) : Prop where
  row : RdO w S x.A (x.ms.length * 5) (x.ms.flatMap Mw.cells)
  nc : x.ms.length ≤ x.c
  cm : x.c ≤ 9223372036854775807
  ok : ∀ m ∈ x.ms, MwO w S m
theorem VwO.next {F F' : Nat → Prop} {w w' : World} {x : Vw} (h : VwO w F x) (hm : Mod F w w') (hF : ∀ k, F' k → F k ∨ w.heap.size ≤ k) : VwO w' F' x :=
  ⟨h.row.next hm hF, h.nc, h.cm, fun m hx => (h.ok m hx).next hm hF⟩
theorem VwO.out {F : Nat → Prop} {w : World} {x : Vw} (h : VwO w F x) : VwOk w x := ⟨h.row.1, h.nc, h.cm, fun m hx => (h.ok m hx).ok⟩
theorem VwOk.off {F : Nat → Prop} {W w : World} {x : Vw} (h0 : VwOk W x) (h : VwOk w x) (hF : ∀ k, F k → W.heap.size ≤ k) : VwO w F x := by
  have key : ∀ {A : Option Addr} {n : Nat} {vs : List Value}, Rd W A n vs → 0 < n → Off F A := fun hr hn b hb hf => by
    obtain ⟨b', hb', hl⟩ := hr.lt hn
    rw [hb] at hb'
    cases hb'
    have := hF b hf
    omega
  exact ⟨⟨h.row, key h0.row⟩, h.nc, h.cm, fun m hx => ⟨⟨(h.ok m hx).a, key (h0.ok m hx).a⟩, ⟨(h.ok m hx).b, key (h0.ok m hx).b⟩, (h.ok m hx).a1, (h.ok m hx).b1⟩⟩
theorem VwOk.drewN {w : World} {x : Vw} (h : VwOk w x) (n : Nat) : VwOk (w.drewN n) x := h.mod0 ((Mod.refl Non w).drewN n)

theorem wpList_app5 {t e : TypeId} (ht : Tryz.prog.underlying t = some (.slice e)) (hT : ∃ i z, Tryz.prog.info? e = some i ∧ i.zero = some z ∧ i.size = 5 ∧ i.bytes = 72 ∧ z.cells.size = 5)
    (w : World) {ops : Array Oper} {rest : List Oper} {o : Oper} {a : Act} {Q : Exit → Act → World → Prop} (hgd : o.guard = none) (s x : Operand)
    (ho : o.op = .call { callee := .builtin .append, args := #[s, x], argTypes := #[t, t] })
    (base : Nat) (v : Value) (n : Nat) (xs : List Mw) (hs : a.eval s = v) (hown : w.ownsRow base e 5 v n (xs.flatMap Mw.cells))
    (b c : Nat) (m : Mw) (hx : a.eval x = .slice (some ⟨b, 0, none⟩) 1 c) (hr : Rd w (some ⟨b, 0, none⟩) (1 * 5) m.cells)
    (h63 : n + 1 ≤ 1000000000) (hbase : base ≤ w.heap.size)
    (h : ∀ A' c' w', n + 1 ≤ c' → c' ≤ 9223372036854775807 → w'.ownsRow base e 5 (.slice A' (n + 1) c') (n + 1) ((xs ++ [m]).flatMap Mw.cells) → w.grownBy w' v.ownBlock → (blkOf A' = v.ownBlock ∨ blkOf A' = some w.heap.size) → wpList Tryz.prog ops Q rest (a.put o.dst (.slice A' (n + 1) c')) w') : wpList Tryz.prog ops Q (o :: rest) a w := by
  obtain ⟨i, z, hi, hz, hs1, hb, hzs⟩ := hT
  refine wpList_plain hgd fun K hK => ?_
  obtain ⟨v', w', hrun, h2, h3, h4⟩ := run_app5 (P := Tryz.prog) w base t o.type e i z 72 ht hi hz hs1 hb hzs v n (xs.flatMap Mw.cells) hown b c m.cells hr (mw_one _) (by simp only [maxLen]; omega) (by omega) hbase
  obtain ⟨A', c', rfl, hc, hcm⟩ := own_slice h2
  unfold Oper.wp execOp
  simp only [ho, resolve, invoke, builtin, Sem.run_bind, Sem.run_pure, Result.andThen_ok, List.map_toArray, List.map_cons, List.map_nil, hs, hx, hrun]
  have hfm : (xs ++ [m]).flatMap Mw.cells = xs.flatMap Mw.cells ++ m.cells := by simp
  rw [← hfm] at h2
  exact hK _ _ (h A' c' w' hc (by have : maxLen = 9223372036854775807 := rfl; omega) h2 h3 (by cases A' <;> exact h4))
theorem rowMr : ∃ i z, Tryz.prog.info? 62 = some i ∧ i.zero = some z ∧ i.size = 5 ∧ i.bytes = 72 ∧ z.cells.size = 5 := by
  obtain ⟨i, hi, h1, h2, h3⟩ := info_parts (P := Tryz.prog) (e := 62) (z := .agg #[.int .i64 0, .int .i64 0, .int .i64 0, .slice none 0 0, .slice none 0 0]) (size := 5) (bytes := 72) (by kernel_rfl)
  exact ⟨i, _, hi, h1, h2, h3, rfl⟩

/-- memory between two rounds. -/
structure CpM (ts td : TypeId) (w : World) (x : Vw) (k : Nat) (Av : Option Addr) (cv : Nat) (wr : World) : Prop where
  mod : Mod Non w wr
  src : Blk wr w.heap.size ts #[.int .i64 x.gen, .int .i64 x.next, .int .i64 x.log, .int .i64 x.seq, .slice x.A x.ms.length x.c]
  res : Blk wr (w.heap.size + 1) td #[.int .i64 0, .int .i64 0, .int .i64 0, .int .i64 0, .slice none 0 0]
  dst : Blk wr (w.heap.size + 1 + 1) td #[.int .i64 x.gen, .int .i64 x.next, .int .i64 x.log, .int .i64 x.seq, .slice Av k cv]

set_option maxRecDepth 100000 in
set_option maxHeartbeats 4000000 in
theorem mine_any (x : Vw) (w : World) (h : VwOk w x) (hlen : x.ms.length ≤ 100000000) :
    Calls Tryz.prog 12 #[x.val] w fun e w' => ∃ A' c', e = .returned (Vw.val ⟨x.gen, x.next, x.log, x.seq, A', c', x.ms⟩) ∧ VwOk w' ⟨x.gen, x.next, x.log, x.seq, A', c', x.ms⟩ ∧ (∀ b, blkOf A' = some b → w.heap.size ≤ b) ∧ Mod Non w w' := by
  have HX := Lib.hid h
  obtain ⟨X, hX⟩ : ∃ X, x = X := ⟨_, rfl⟩
  rw [hX] at HX
  obtain ⟨gen, next, log, seq, A, c, ms⟩ := x
  obtain ⟨n, hn⟩ : ∃ n, ms.length = n := ⟨_, rfl⟩
  have HXE := Lib.hid hX
  have HNN := Lib.hid hn
  have hrow := h.row
  simp only at hrow
  rw [hn] at hrow
  have HROW := Lib.hid hrow
  simp only at hlen
  rw [hn] at hlen
  unfold Vw.val
  simp only
  rw [hn]
  have hst : CpM 30 34 w ⟨gen, next, log, seq, A, c, ms⟩ 0 none 0 (((w.alloc (.cells #[.int .i64 gen, .int .i64 next, .int .i64 log, .int .i64 seq, .slice A n c] 30)).alloc (.cells #[.int .i64 0, .int .i64 0, .int .i64 0, .int .i64 0, .slice none 0 0] 34)).alloc (.cells #[.int .i64 gen, .int .i64 next, .int .i64 log, .int .i64 seq, .slice none 0 0] 34)) := by
    refine ⟨(((Mod.refl _ _).alloc _).alloc _).alloc _, ?_, ?_, ?_⟩
    · simp only
      rw [hn]
      exact ((Blk.new w _ _).alloc _).alloc _
    · have := (Blk.new (w.alloc (.cells #[.int .i64 gen, .int .i64 next, .int .i64 log, .int .i64 seq, .slice A n c] 30)) 34 #[.int .i64 0, .int .i64 0, .int .i64 0, .int .i64 0, .slice none 0 0]).alloc (.cells #[.int .i64 gen, .int .i64 next, .int .i64 log, .int .i64 seq, .slice none 0 0] 34)
      rwa [World.size_alloc] at this
    · have := Blk.new ((w.alloc (.cells #[.int .i64 gen, .int .i64 next, .int .i64 log, .int .i64 seq, .slice A n c] 30)).alloc (.cells #[.int .i64 0, .int .i64 0, .int .i64 0, .int .i64 0, .slice none 0 0] 34)) 34 #[.int .i64 gen, .int .i64 next, .int .i64 log, .int .i64 seq, .slice none 0 0]
      rwa [World.size_alloc, World.size_alloc] at this
  have HST := Lib.hid hst
  have hsz : w.heap.size + 3 ≤ (((w.alloc (.cells #[.int .i64 gen, .int .i64 next, .int .i64 log, .int .i64 seq, .slice A n c] 30)).alloc (.cells #[.int .i64 0, .int .i64 0, .int .i64 0, .int .i64 0, .slice none 0 0] 34)).alloc (.cells #[.int .i64 gen, .int .i64 next, .int .i64 log, .int .i64 seq, .slice none 0 0] 34)).heap.size := by simp only [World.size_alloc]; omega
  clear hst hn hX hrow h
  go_enter Tryz.func12, Tryz.ntmps12
  go_wp2_with fail
  go_loopw [4] (fun i wr => ∃ (k cv : Nat) (Av : Option Addr), k ≤ n ∧ i = .int .i64 k ∧ w.heap.size + 3 ≤ wr.heap.size ∧ Hid (CpM 30 34 w ⟨gen, next, log, seq, A, c, ms⟩ k Av cv wr) ∧ Hid (wr.ownsRow (w.heap.size + 3) 95 5 (.slice Av k cv) k ((ms.take k).flatMap Mw.cells))) (fun i _ => n - (intOf i).toNat)
  case atStart => exact ⟨0, 0, none, Nat.zero_le _, rfl, hsz, HST.out, World.ownsRow_nil _ _ _ _⟩
  case round =>
    obtain ⟨k, cv, Av, hk, rfl, hsr, HP, HOWN⟩ := hrel
    have c14 : wr.cell? ⟨w.heap.size, 4, none⟩ = some (.slice A n c) := by
      have := HP.out.src.cell 4
      simp only at this
      rw [HNN.out] at this
      exact this
    by_cases hlt : k < n
    · obtain ⟨b, o, y, rfl, hy, g0, g1, g2, g3, g4⟩ := (HROW.out.mod0 HP.out.mod).mw HNN.out hlt
      have i1 : (0 : Int) ≤ (k : Int) := by omega
      have i2 : (k : Int) < (n : Int) := by omega
      have HSN := Lib.hid (take_snoc' ms k y hy)
      have hbl : b < wr.heap.size := World.block_lt_of_cell? wr _ g0
      obtain ⟨⟨num, level, count, first, last⟩, YA, ca, YB, cb⟩ := y
      simp only at g0 g1 g2 g3 g4
      obtain ⟨n1, hn1⟩ : ∃ n1, first.length = n1 := ⟨_, rfl⟩
      obtain ⟨n2, hn2⟩ : ∃ n2, last.length = n2 := ⟨_, rfl⟩
      have HN1 := Lib.hid hn1
      have HN2 := Lib.hid hn2
      rw [hn1] at g3
      rw [hn2] at g4
      have HB5 := Lib.hid (Blk.new wr 62 #[.int .i64 num, .int .i64 level, .int .i64 count, .slice YA n1 ca, .slice YB n2 cb])
      have e0 := HB5.out.cell 0
      have e1 := HB5.out.cell 1
      have e2 := HB5.out.cell 2
      have e3 := HB5.out.cell 3
      have e4 := HB5.out.cell 4
      have HPA := Lib.hid ((HP.out.dst.alloc (.cells #[.int .i64 num, .int .i64 level, .int .i64 count, .slice YA n1 ca, .slice YB n2 cb] 62)))
      have d4 : (wr.alloc (.cells #[.int .i64 num, .int .i64 level, .int .i64 count, .slice YA n1 ca, .slice YB n2 cb] 62)).cell? ⟨w.heap.size + 1 + 1, 4, none⟩ = some (.slice Av k cv) := HPA.out.cell 4
      obtain ⟨wq, hwq⟩ : ∃ wq, (wr.alloc (.cells #[.int .i64 num, .int .i64 level, .int .i64 count, .slice YA n1 ca, .slice YB n2 cb] 62)).alloc (.cells #[.int .i64 num, .int .i64 level, .int .i64 count, .slice YA n1 ca, .slice YB n2 cb] 95) = wq := ⟨_, rfl⟩
      have hmq : Mod Non wr wq := by rw [← hwq]; exact ((Mod.refl _ _).alloc _).alloc _
      have HMQ := Lib.hid hmq
      have HWQ := Lib.hid hwq
      have hrow := HOWN.out.lt
      have hownq := own_mod (S := Non) HOWN.out hmq (fun _ _ h => h)
      have HOQ := Lib.hid hownq
      have hone : Rd wq (some ⟨wr.heap.size + 1, 0, none⟩) (1 * 5) (Mw.cells ⟨⟨num, level, count, first, last⟩, YA, ca, YB, cb⟩) := by
        have := one_meta (wr.alloc (.cells #[.int .i64 num, .int .i64 level, .int .i64 count, .slice YA n1 ca, .slice YB n2 cb] 62)) 95 ⟨⟨num, level, count, first, last⟩, YA, ca, YB, cb⟩
        simp only [World.size_alloc] at this
        rw [hn1, hn2, hwq] at this
        exact this
      have HONE := Lib.hid hone
      clear hy hn1 hn2 hwq hmq hownq hone
      go_wp2_with (first
        | (at_builtin
           rw [HWQ.out]
           refine wpList_app5 Tryz.underlying32 rowM _ rfl (.tmp 28) (.tmp 40) rfl (w.heap.size + 3) (.slice Av k cv) k (ms.take k) rfl HOQ.out (wr.heap.size + 1) 1 ⟨⟨num, level, count, first, last⟩, YA, ca, YB, cb⟩ rfl HONE.out (by omega) (by have := HMQ.out.size; omega) ?_
           intro A' c' w' hc' hcm' hown' hg' hat'
           have hmg : Mod (fun g => (Value.slice Av k cv).ownBlock = some g) wq w' := Mod.of_grown hg' fun _ h => h
           have hmr : Mod (fun g => (Value.slice Av k cv).ownBlock = some g) wr w' := HMQ.out.non.trans hmg fun g hg => .inl hg
           have HMR := Lib.hid hmr
           have hfar : ∀ g, (Value.slice Av k cv).ownBlock = some g → w.heap.size + 3 ≤ g := fun g hg => (hrow g hg).1
           have hdst := HP.out.dst.mod hmr (fun h => by have := hfar _ h; omega)
           have HDST := Lib.hid hdst
           have d4' : w'.cell? ⟨w.heap.size + 1 + 1, 4, none⟩ = some (.slice Av k cv) := hdst.cell 4
           have fd4 := hdst.frozen 4
           have HO2 := Lib.hid hown'
           clear hmg hmr hdst hown' hg' hat')
        | fail)
      go_roundw
      case rel =>
        have hms : Mod (fun g => g = w.heap.size + 1 + 1) w' (w'.setCell ⟨w.heap.size + 1 + 1, 4, none⟩ (.slice A' (k + 1) c')) := (Mod.refl _ _).set1 4 _
        refine ⟨k + 1, c', A', by omega, by go_num, by have h1 := HMR.out.size; have h2 := hms.size; omega, ⟨?_, ?_, ?_, HDST.out.set_ 4 _⟩, ?_⟩
        · exact ((HP.out.mod.non.trans HMR.out fun g hg => .inr (by have := hfar g hg; omega)).trans hms fun g hg => .inr (by omega))
        · exact (HP.out.src.mod HMR.out (fun h => by have := hfar _ h; omega)).mod hms (by omega)
        · exact (HP.out.res.mod HMR.out (fun h => by have := hfar _ h; omega)).mod hms (by omega)
        · show World.ownsRow _ _ _ _ _ _ _
          rw [HSN.out]
          refine own_mod HO2.out hms fun b hb e => ?_
          have := (HO2.out.lt b hb).1
          omega
      case measure => simp [intOf]; omega
    · obtain rfl : k = n := by omega
      have hbd := HP.out.dst
      have u0 : wr.cell? ⟨w.heap.size + 1 + 1, 0, none⟩ = some (.int .i64 gen) := hbd.cell 0
      have u1 : wr.cell? ⟨w.heap.size + 1 + 1, 1, none⟩ = some (.int .i64 next) := hbd.cell 1
      have u2 : wr.cell? ⟨w.heap.size + 1 + 1, 2, none⟩ = some (.int .i64 log) := hbd.cell 2
      have u3 : wr.cell? ⟨w.heap.size + 1 + 1, 3, none⟩ = some (.int .i64 seq) := hbd.cell 3
      have u4 : wr.cell? ⟨w.heap.size + 1 + 1, 4, none⟩ = some (.slice Av k cv) := hbd.cell 4
      have hbr := HP.out.res
      have r0 : wr.cell? ⟨w.heap.size + 1, 0, none⟩ = some (.int .i64 0) := hbr.cell 0
      have r1 : wr.cell? ⟨w.heap.size + 1, 1, none⟩ = some (.int .i64 0) := hbr.cell 1
      have r2 : wr.cell? ⟨w.heap.size + 1, 2, none⟩ = some (.int .i64 0) := hbr.cell 2
      have r3 : wr.cell? ⟨w.heap.size + 1, 3, none⟩ = some (.int .i64 0) := hbr.cell 3
      have r4 : wr.cell? ⟨w.heap.size + 1, 4, none⟩ = some (.slice none 0 0) := hbr.cell 4
      have f0 := hbr.frozen 0
      have f1 := hbr.frozen 1
      have f2 := hbr.frozen 2
      have f3 := hbr.frozen 3
      have f4 := hbr.frozen 4
      have HBR := Lib.hid hbr
      clear hbd hbr
      go_wp2_with fail
      refine bodyPost_ret (results_cell_row rfl _ _ (w.heap.size + 1) 34 _ (0, 0) _ rfl (HBR.out.five _ _ _ _ _) Tryz.underlying34 rfl (by kernel_rfl)) rfl ?_
      have hm5 := set5b (g := w.heap.size + 1) HP.out.mod (by omega) (.int .i64 gen) (.int .i64 next) (.int .i64 log) (.int .i64 seq) (.slice Av k cv)
      have hm5r : Mod (fun g => g = w.heap.size + 1) wr (((((wr.setCell ⟨w.heap.size + 1, 0, none⟩ (.int .i64 gen)).setCell ⟨w.heap.size + 1, 1, none⟩ (.int .i64 next)).setCell ⟨w.heap.size + 1, 2, none⟩ (.int .i64 log)).setCell ⟨w.heap.size + 1, 3, none⟩ (.int .i64 seq)).setCell ⟨w.heap.size + 1, 4, none⟩ (.slice Av k cv)) := (((((Mod.refl _ _).set1 0 _).set1 1 _).set1 2 _).set1 3 _).set1 4 _
      have hrow2 := (Rd.of_own5 (own_mod HOWN.out hm5r (fun b hb e => by have := (HOWN.out.lt b hb).1; omega)))
      rw [List.take_of_length_le (by rw [HNN.out]; omega)] at hrow2
      obtain ⟨_, _, he, hc1, hc2⟩ := own_slice HOWN.out
      cases he
      have hmx : maxLen = 9223372036854775807 := rfl
      refine ⟨Av, cv, rfl, ⟨?_, ?_, by simp only; omega, fun m hm => ?_⟩, fun b hb => ?_, hm5⟩
      · simp only
        rw [HNN.out]
        exact hrow2
      · simp only
        rw [HNN.out]
        exact hc1
      · refine (HX.out.ok m ?_).mod0 hm5
        rw [← HXE.out]
        exact hm
      · have := own_base HOWN.out b hb
        omega

set_option maxRecDepth 100000 in
set_option maxHeartbeats 4000000 in
theorem theirs_any (x : Vw) (w : World) (h : VwOk w x) (hlen : x.ms.length ≤ 100000000) :
    Calls Tryz.prog 15 #[x.val] w fun e w' => ∃ A' c', e = .returned (Vw.val ⟨x.gen, x.next, x.log, x.seq, A', c', x.ms⟩) ∧ VwOk w' ⟨x.gen, x.next, x.log, x.seq, A', c', x.ms⟩ ∧ (∀ b, blkOf A' = some b → w.heap.size ≤ b) ∧ Mod Non w w' := by
  have HX := Lib.hid h
  obtain ⟨X, hX⟩ : ∃ X, x = X := ⟨_, rfl⟩
  rw [hX] at HX
  obtain ⟨gen, next, log, seq, A, c, ms⟩ := x
  obtain ⟨n, hn⟩ : ∃ n, ms.length = n := ⟨_, rfl⟩
  have HXE := Lib.hid hX
  have HNN := Lib.hid hn
  have hrow := h.row
  simp only at hrow
  rw [hn] at hrow
  have HROW := Lib.hid hrow
  simp only at hlen
  rw [hn] at hlen
  unfold Vw.val
  simp only
  rw [hn]
  have hst : CpM 34 30 w ⟨gen, next, log, seq, A, c, ms⟩ 0 none 0 (((w.alloc (.cells #[.int .i64 gen, .int .i64 next, .int .i64 log, .int .i64 seq, .slice A n c] 34)).alloc (.cells #[.int .i64 0, .int .i64 0, .int .i64 0, .int .i64 0, .slice none 0 0] 30)).alloc (.cells #[.int .i64 gen, .int .i64 next, .int .i64 log, .int .i64 seq, .slice none 0 0] 30)) := by
    refine ⟨(((Mod.refl _ _).alloc _).alloc _).alloc _, ?_, ?_, ?_⟩
    · simp only
      rw [hn]
      exact ((Blk.new w _ _).alloc _).alloc _
    · have := (Blk.new (w.alloc (.cells #[.int .i64 gen, .int .i64 next, .int .i64 log, .int .i64 seq, .slice A n c] 34)) 30 #[.int .i64 0, .int .i64 0, .int .i64 0, .int .i64 0, .slice none 0 0]).alloc (.cells #[.int .i64 gen, .int .i64 next, .int .i64 log, .int .i64 seq, .slice none 0 0] 30)
      rwa [World.size_alloc] at this
    · have := Blk.new ((w.alloc (.cells #[.int .i64 gen, .int .i64 next, .int .i64 log, .int .i64 seq, .slice A n c] 34)).alloc (.cells #[.int .i64 0, .int .i64 0, .int .i64 0, .int .i64 0, .slice none 0 0] 30)) 30 #[.int .i64 gen, .int .i64 next, .int .i64 log, .int .i64 seq, .slice none 0 0]
      rwa [World.size_alloc, World.size_alloc] at this
  have HST := Lib.hid hst
  have hsz : w.heap.size + 3 ≤ (((w.alloc (.cells #[.int .i64 gen, .int .i64 next, .int .i64 log, .int .i64 seq, .slice A n c] 34)).alloc (.cells #[.int .i64 0, .int .i64 0, .int .i64 0, .int .i64 0, .slice none 0 0] 30)).alloc (.cells #[.int .i64 gen, .int .i64 next, .int .i64 log, .int .i64 seq, .slice none 0 0] 30)).heap.size := by simp only [World.size_alloc]; omega
  clear hst hn hX hrow h
  go_enter Tryz.func15, Tryz.ntmps15
  go_wp2_with fail
  go_loopw [4] (fun i wr => ∃ (k cv : Nat) (Av : Option Addr), k ≤ n ∧ i = .int .i64 k ∧ w.heap.size + 3 ≤ wr.heap.size ∧ Hid (CpM 34 30 w ⟨gen, next, log, seq, A, c, ms⟩ k Av cv wr) ∧ Hid (wr.ownsRow (w.heap.size + 3) 62 5 (.slice Av k cv) k ((ms.take k).flatMap Mw.cells))) (fun i _ => n - (intOf i).toNat)
  case atStart => exact ⟨0, 0, none, Nat.zero_le _, rfl, hsz, HST.out, World.ownsRow_nil _ _ _ _⟩
  case round =>
    obtain ⟨k, cv, Av, hk, rfl, hsr, HP, HOWN⟩ := hrel
    have c14 : wr.cell? ⟨w.heap.size, 4, none⟩ = some (.slice A n c) := by
      have := HP.out.src.cell 4
      simp only at this
      rw [HNN.out] at this
      exact this
    by_cases hlt : k < n
    · obtain ⟨b, o, y, rfl, hy, g0, g1, g2, g3, g4⟩ := (HROW.out.mod0 HP.out.mod).mw HNN.out hlt
      have i1 : (0 : Int) ≤ (k : Int) := by omega
      have i2 : (k : Int) < (n : Int) := by omega
      have HSN := Lib.hid (take_snoc' ms k y hy)
      have hbl : b < wr.heap.size := World.block_lt_of_cell? wr _ g0
      obtain ⟨⟨num, level, count, first, last⟩, YA, ca, YB, cb⟩ := y
      simp only at g0 g1 g2 g3 g4
      obtain ⟨n1, hn1⟩ : ∃ n1, first.length = n1 := ⟨_, rfl⟩
      obtain ⟨n2, hn2⟩ : ∃ n2, last.length = n2 := ⟨_, rfl⟩
      have HN1 := Lib.hid hn1
      have HN2 := Lib.hid hn2
      rw [hn1] at g3
      rw [hn2] at g4
      have HB5 := Lib.hid (Blk.new wr 95 #[.int .i64 num, .int .i64 level, .int .i64 count, .slice YA n1 ca, .slice YB n2 cb])
      have e0 := HB5.out.cell 0
      have e1 := HB5.out.cell 1
      have e2 := HB5.out.cell 2
      have e3 := HB5.out.cell 3
      have e4 := HB5.out.cell 4
      have HPA := Lib.hid ((HP.out.dst.alloc (.cells #[.int .i64 num, .int .i64 level, .int .i64 count, .slice YA n1 ca, .slice YB n2 cb] 95)))
      have d4 : (wr.alloc (.cells #[.int .i64 num, .int .i64 level, .int .i64 count, .slice YA n1 ca, .slice YB n2 cb] 95)).cell? ⟨w.heap.size + 1 + 1, 4, none⟩ = some (.slice Av k cv) := HPA.out.cell 4
      obtain ⟨wq, hwq⟩ : ∃ wq, (wr.alloc (.cells #[.int .i64 num, .int .i64 level, .int .i64 count, .slice YA n1 ca, .slice YB n2 cb] 95)).alloc (.cells #[.int .i64 num, .int .i64 level, .int .i64 count, .slice YA n1 ca, .slice YB n2 cb] 62) = wq := ⟨_, rfl⟩
      have hmq : Mod Non wr wq := by rw [← hwq]; exact ((Mod.refl _ _).alloc _).alloc _
      have HMQ := Lib.hid hmq
      have HWQ := Lib.hid hwq
      have hrow := HOWN.out.lt
      have hownq := own_mod (S := Non) HOWN.out hmq (fun _ _ h => h)
      have HOQ := Lib.hid hownq
      have hone : Rd wq (some ⟨wr.heap.size + 1, 0, none⟩) (1 * 5) (Mw.cells ⟨⟨num, level, count, first, last⟩, YA, ca, YB, cb⟩) := by
        have := one_meta (wr.alloc (.cells #[.int .i64 num, .int .i64 level, .int .i64 count, .slice YA n1 ca, .slice YB n2 cb] 95)) 62 ⟨⟨num, level, count, first, last⟩, YA, ca, YB, cb⟩
        simp only [World.size_alloc] at this
        rw [hn1, hn2, hwq] at this
        exact this
      have HONE := Lib.hid hone
      clear hy hn1 hn2 hwq hmq hownq hone
      go_wp2_with (first
        | (at_builtin
           rw [HWQ.out]
           refine wpList_app5 Tryz.underlying28 rowMr _ rfl (.tmp 28) (.tmp 40) rfl (w.heap.size + 3) (.slice Av k cv) k (ms.take k) rfl HOQ.out (wr.heap.size + 1) 1 ⟨⟨num, level, count, first, last⟩, YA, ca, YB, cb⟩ rfl HONE.out (by omega) (by have := HMQ.out.size; omega) ?_
           intro A' c' w' hc' hcm' hown' hg' hat'
           have hmg : Mod (fun g => (Value.slice Av k cv).ownBlock = some g) wq w' := Mod.of_grown hg' fun _ h => h
           have hmr : Mod (fun g => (Value.slice Av k cv).ownBlock = some g) wr w' := HMQ.out.non.trans hmg fun g hg => .inl hg
           have HMR := Lib.hid hmr
           have hfar : ∀ g, (Value.slice Av k cv).ownBlock = some g → w.heap.size + 3 ≤ g := fun g hg => (hrow g hg).1
           have hdst := HP.out.dst.mod hmr (fun h => by have := hfar _ h; omega)
           have HDST := Lib.hid hdst
           have d4' : w'.cell? ⟨w.heap.size + 1 + 1, 4, none⟩ = some (.slice Av k cv) := hdst.cell 4
           have fd4 := hdst.frozen 4
           have HO2 := Lib.hid hown'
           clear hmg hmr hdst hown' hg' hat')
        | fail)
      go_roundw
      case rel =>
        have hms : Mod (fun g => g = w.heap.size + 1 + 1) w' (w'.setCell ⟨w.heap.size + 1 + 1, 4, none⟩ (.slice A' (k + 1) c')) := (Mod.refl _ _).set1 4 _
        refine ⟨k + 1, c', A', by omega, by go_num, by have h1 := HMR.out.size; have h2 := hms.size; omega, ⟨?_, ?_, ?_, HDST.out.set_ 4 _⟩, ?_⟩
        · exact ((HP.out.mod.non.trans HMR.out fun g hg => .inr (by have := hfar g hg; omega)).trans hms fun g hg => .inr (by omega))
        · exact (HP.out.src.mod HMR.out (fun h => by have := hfar _ h; omega)).mod hms (by omega)
        · exact (HP.out.res.mod HMR.out (fun h => by have := hfar _ h; omega)).mod hms (by omega)
        · show World.ownsRow _ _ _ _ _ _ _
          rw [HSN.out]
          refine own_mod HO2.out hms fun b hb e => ?_
          have := (HO2.out.lt b hb).1
          omega
      case measure => simp [intOf]; omega
    · obtain rfl : k = n := by omega
      have hbd := HP.out.dst
      have u0 : wr.cell? ⟨w.heap.size + 1 + 1, 0, none⟩ = some (.int .i64 gen) := hbd.cell 0
      have u1 : wr.cell? ⟨w.heap.size + 1 + 1, 1, none⟩ = some (.int .i64 next) := hbd.cell 1
      have u2 : wr.cell? ⟨w.heap.size + 1 + 1, 2, none⟩ = some (.int .i64 log) := hbd.cell 2
      have u3 : wr.cell? ⟨w.heap.size + 1 + 1, 3, none⟩ = some (.int .i64 seq) := hbd.cell 3
      have u4 : wr.cell? ⟨w.heap.size + 1 + 1, 4, none⟩ = some (.slice Av k cv) := hbd.cell 4
      have hbr := HP.out.res
      have r0 : wr.cell? ⟨w.heap.size + 1, 0, none⟩ = some (.int .i64 0) := hbr.cell 0
      have r1 : wr.cell? ⟨w.heap.size + 1, 1, none⟩ = some (.int .i64 0) := hbr.cell 1
      have r2 : wr.cell? ⟨w.heap.size + 1, 2, none⟩ = some (.int .i64 0) := hbr.cell 2
      have r3 : wr.cell? ⟨w.heap.size + 1, 3, none⟩ = some (.int .i64 0) := hbr.cell 3
      have r4 : wr.cell? ⟨w.heap.size + 1, 4, none⟩ = some (.slice none 0 0) := hbr.cell 4
      have f0 := hbr.frozen 0
      have f1 := hbr.frozen 1
      have f2 := hbr.frozen 2
      have f3 := hbr.frozen 3
      have f4 := hbr.frozen 4
      have HBR := Lib.hid hbr
      clear hbd hbr
      go_wp2_with fail
      refine bodyPost_ret (results_cell_row rfl _ _ (w.heap.size + 1) 30 _ (0, 0) _ rfl (HBR.out.five _ _ _ _ _) Tryz.underlying30 rfl (by kernel_rfl)) rfl ?_
      have hm5 := set5b (g := w.heap.size + 1) HP.out.mod (by omega) (.int .i64 gen) (.int .i64 next) (.int .i64 log) (.int .i64 seq) (.slice Av k cv)
      have hm5r : Mod (fun g => g = w.heap.size + 1) wr (((((wr.setCell ⟨w.heap.size + 1, 0, none⟩ (.int .i64 gen)).setCell ⟨w.heap.size + 1, 1, none⟩ (.int .i64 next)).setCell ⟨w.heap.size + 1, 2, none⟩ (.int .i64 log)).setCell ⟨w.heap.size + 1, 3, none⟩ (.int .i64 seq)).setCell ⟨w.heap.size + 1, 4, none⟩ (.slice Av k cv)) := (((((Mod.refl _ _).set1 0 _).set1 1 _).set1 2 _).set1 3 _).set1 4 _
      have hrow2 := (Rd.of_own5 (own_mod HOWN.out hm5r (fun b hb e => by have := (HOWN.out.lt b hb).1; omega)))
      rw [List.take_of_length_le (by rw [HNN.out]; omega)] at hrow2
      obtain ⟨_, _, he, hc1, hc2⟩ := own_slice HOWN.out
      cases he
      have hmx : maxLen = 9223372036854775807 := rfl
      refine ⟨Av, cv, rfl, ⟨?_, ?_, by simp only; omega, fun m hm => ?_⟩, fun b hb => ?_, hm5⟩
      · simp only
        rw [HNN.out]
        exact hrow2
      · simp only
        rw [HNN.out]
        exact hc1
      · refine (HX.out.ok m ?_).mod0 hm5
        rw [← HXE.out]
        exact hm
      · have := own_base HOWN.out b hb
        omega

end Go.Proofs.YtdpjnpjmokncdaaGreatDoor

/- sawyerref10.SameMetas, sawyerref10.Same. -/
namespace Go.Proofs.YtdpjnpjmokncdaaGreatDoor
open Go.RowKit

set_option maxRecDepth 100000 in
set_option maxHeartbeats 8000000 in
theorem sameMetas_any (A B : Option Addr) (n c m d : Nat) (xs ys : List Mw) (w : World) (hx : Rd w A (n * 5) (xs.flatMap Mw.cells)) (hxl : xs.length = n) (hxo : ∀ x ∈ xs, MwOk w x)
    (hy : Rd w B (m * 5) (ys.flatMap Mw.cells)) (hyl : ys.length = m) (hyo : ∀ x ∈ ys, MwOk w x) (hn : n ≤ 9223372036854775807) :
    Calls Tryz.prog 47 #[.slice A n c, .slice B m d] w fun e w' => e = .returned (.bool (decide (xs.map (·.m) = ys.map (·.m)))) ∧ Mod Non w w' := by
  have HX := Lib.hid hx
  have HY := Lib.hid hy
  have HXL := Lib.hid hxl
  have HYL := Lib.hid hyl
  have HXO := Lib.hid hxo
  have HYO := Lib.hid hyo
  clear hx hy hxl hyl hxo hyo
  by_cases hnm : n = m
  · subst hnm
    obtain ⟨R, hR⟩ : ∃ R, decide (xs.map (·.m) = ys.map (·.m)) = R := ⟨_, rfl⟩
    have HR := Lib.hid hR
    rw [hR]
    clear hR
    go_enter Tryz.func47, Tryz.ntmps47
    go_wp2_with fail
    go_loopw [5] (fun i wr => ∃ k : Nat, k ≤ n ∧ i = .int .i64 k ∧ Hid (Mod Non w wr) ∧ Hid ((xs.map (·.m)).take k = (ys.map (·.m)).take k)) (fun i _ => n - (intOf i).toNat)
    case atStart => exact ⟨0, Nat.zero_le _, rfl, Mod.refl _ _, rfl⟩
    case round =>
      obtain ⟨k, hk, rfl, HM, HE⟩ := hrel
      by_cases hlt : k < n
      · obtain ⟨b, o, p, rfl, hp, g0, g1, g2, g3, g4⟩ := (HX.out.mod0 HM.out).mw HXL.out hlt
        obtain ⟨b', o', q, rfl, hq, k0, k1, k2, k3, k4⟩ := (HY.out.mod0 HM.out).mw HYL.out hlt
        have i1 : (0 : Int) ≤ (k : Int) := by omega
        have i2 : (k : Int) < (n : Int) := by omega
        have hpo := (HXO.out p (List.mem_of_getElem? hp)).mod0 HM.out
        have hqo := (HYO.out q (List.mem_of_getElem? hq)).mod0 HM.out
        have HP : Hid ((xs.map (·.m))[k]? = some p.m) := by { show _ = _; rw [List.getElem?_map, hp]; rfl }
        have HQ : Hid ((ys.map (·.m))[k]? = some q.m) := by { show _ = _; rw [List.getElem?_map, hq]; rfl }
        obtain ⟨⟨num, level, count, first, last⟩, YA, ca, YB, cb⟩ := p
        obtain ⟨⟨num', level', count', first', last'⟩, YA', ca', YB', cb'⟩ := q
        have ha := hpo.a
        have hb := hpo.b
        have ha' := hqo.a
        have hb' := hqo.b
        simp only at g0 g1 g2 g3 g4 k0 k1 k2 k3 k4 ha hb ha' hb' HP HQ
        have hne : (⟨num, level, count, first, last⟩ : Mt) ≠ ⟨num', level', count', first', last'⟩ → R = false := fun h => by
          rw [← HR.out]
          refine decide_eq_false fun e => h ?_
          have e2 := congrArg (fun l => l[k]?) e
          simp only [HP.out, HQ.out, Option.some.injEq] at e2
          exact e2
        have HNE := Lib.hid hne
        have hcv := fun W (hW : Rd W YA first.length (by8 first)) => conv_str (P := Tryz.prog) W 44 9 5 YA first.length ca first Tryz.underlying44 Tryz.underlying5 Tryz.underlying9 hW
        have hcv' := fun W (hW : Rd W YA' first'.length (by8 first')) => conv_str (P := Tryz.prog) W 44 9 5 YA' first'.length ca' first' Tryz.underlying44 Tryz.underlying5 Tryz.underlying9 hW
        have hcw := fun W (hW : Rd W YB last.length (by8 last)) => conv_str (P := Tryz.prog) W 44 9 5 YB last.length cb last Tryz.underlying44 Tryz.underlying5 Tryz.underlying9 hW
        have hcw' := fun W (hW : Rd W YB' last'.length (by8 last')) => conv_str (P := Tryz.prog) W 44 9 5 YB' last'.length cb' last' Tryz.underlying44 Tryz.underlying5 Tryz.underlying9 hW
        have f1 := fun j => hcv _ (ha.drewN j)
        have f2 := fun j => hcv' _ (ha'.drewN j)
        have f3 := fun j => hcw _ (hb.drewN j)
        have f4 := fun j => hcw' _ (hb'.drewN j)
        clear hcv hcv' hcw hcw' ha hb ha' hb' hpo hqo hp hq hne
        by_cases q0 : num = num'
        · subst q0
          by_cases q1 : level = level'
          · subst q1
            by_cases q2 : count = count'
            · subst q2
              by_cases q3 : first = first'
              · subst q3
                by_cases q4 : last = last'
                · subst q4
                  go_wp2_with fail
                  go_quiet (fail)
                  go_wp2_with fail
                  go_roundw
                  case rel =>
                    refine ⟨k + 1, by omega, by go_num, HM.out.drewN _, ?_⟩
                    show (xs.map (·.m)).take (k + 1) = (ys.map (·.m)).take (k + 1)
                    rw [take_snoc' _ k _ HP.out, take_snoc' _ k _ HQ.out, HE.out]
                  case measure => simp [intOf]; omega
                · have HRF := Lib.hid (HNE.out (fun e => q4 (by injection e)))
                  have hs2 : (last == last') = false := beq_eq_false_iff_ne.2 q4
                  clear q4
                  go_wp2_with fail
                  go_quiet (fail)
                  go_wp2_with fail
                  go_ret
                  exact ⟨by rw [HRF.out]; rfl, HM.out.drewN _⟩
              · have HRF := Lib.hid (HNE.out (fun e => q3 (by injection e)))
                have hs2 : (first == first') = false := beq_eq_false_iff_ne.2 q3
                clear q3
                go_wp2_with fail
                go_quiet (fail)
                go_wp2_with fail
                go_ret
                exact ⟨by rw [HRF.out]; rfl, HM.out.drewN _⟩
            · have HRF := Lib.hid (HNE.out (fun e => q2 (by injection e)))
              have hs2 : (count == count') = false := beq_eq_false_iff_ne.2 q2
              have hs3 : decide (count = count') = false := decide_eq_false q2
              have hs4 : (count != count') = true := by simp [bne, hs2]
              have hs5 : decide (¬ count = count') = true := decide_eq_true q2
              clear q2
              go_wp2_with fail
              go_quiet (fail)
              go_wp2_with fail
              go_ret
              exact ⟨by rw [HRF.out]; rfl, HM.out.drewN _⟩
          · have HRF := Lib.hid (HNE.out (fun e => q1 (by injection e)))
            have hs2 : (level == level') = false := beq_eq_false_iff_ne.2 q1
            have hs3 : decide (level = level') = false := decide_eq_false q1
            have hs4 : (level != level') = true := by simp [bne, hs2]
            have hs5 : decide (¬ level = level') = true := decide_eq_true q1
            clear q1
            go_wp2_with fail
            go_quiet (fail)
            go_wp2_with fail
            go_ret
            exact ⟨by rw [HRF.out]; rfl, HM.out.drewN _⟩
        · have HRF := Lib.hid (HNE.out (fun e => q0 (by injection e)))
          have hs2 : (num == num') = false := beq_eq_false_iff_ne.2 q0
          have hs3 : decide (num = num') = false := decide_eq_false q0
          have hs4 : (num != num') = true := by simp [bne, hs2]
          have hs5 : decide (¬ num = num') = true := decide_eq_true q0
          clear q0
          go_wp2_with fail
          go_quiet (fail)
          go_wp2_with fail
          go_ret
          exact ⟨by rw [HRF.out]; rfl, HM.out.drewN _⟩
      · obtain rfl : k = n := by omega
        go_wp2_with fail
        go_ret
        have e0 : R = true := by
          rw [← HR.out]
          refine decide_eq_true ?_
          have e := HE.out
          rwa [List.take_of_length_le (by simp [HXL.out]), List.take_of_length_le (by simp [HYL.out])] at e
        exact ⟨by rw [e0]; rfl, HM.out⟩
  · have h1 : ((n : Int) == (m : Int)) = false := by simp; omega
    have h2 : ¬ ((n : Int) = (m : Int)) := by omega
    go_enter Tryz.func47, Tryz.ntmps47
    go_wp2_with fail
    go_ret
    have e0 : decide (xs.map (·.m) = ys.map (·.m)) = false := decide_eq_false fun e => by
      have := congrArg List.length e
      rw [List.length_map, List.length_map, HXL.out, HYL.out] at this
      omega
    exact ⟨by rw [e0]; rfl, Mod.refl _ _⟩

end Go.Proofs.YtdpjnpjmokncdaaGreatDoor

/- sawyerref10.Same. -/
namespace Go.Proofs.YtdpjnpjmokncdaaGreatDoor
open Go.RowKit

set_option maxRecDepth 100000 in
set_option maxHeartbeats 4000000 in
theorem sameVs_any (x y : Vw) (w : World) (hx : VwOk w x) (hy : VwOk w y) :
    Calls Tryz.prog 14 #[x.val, y.val] w fun e w' => e = .returned (.bool (decide (x.v = y.v))) ∧ Mod Non w w' := by
  obtain ⟨xx, hxx⟩ : ∃ xx, x.v = xx := ⟨_, rfl⟩
  obtain ⟨yy, hyy⟩ : ∃ yy, y.v = yy := ⟨_, rfl⟩
  obtain ⟨R, hR⟩ : ∃ R, decide (xx = yy) = R := ⟨_, rfl⟩
  rw [hxx, hyy, hR]
  have HR := Lib.hid hR
  obtain ⟨gen, next, log, seq, A, c, xs⟩ := x
  obtain ⟨gen', next', log', seq', B, d, ys⟩ := y
  obtain ⟨n, hn⟩ : ∃ n, xs.length = n := ⟨_, rfl⟩
  obtain ⟨m, hm⟩ : ∃ m, ys.length = m := ⟨_, rfl⟩
  have hcall : ∀ W, Mod Non w W → Calls Tryz.prog 47 #[.slice A n c, .slice B m d] W fun e w' => e = .returned (.bool (decide (xs.map (·.m) = ys.map (·.m)))) ∧ Mod Non W w' := fun W hW => by
    have h1 := hx.row.mod0 hW
    have h2 := hy.row.mod0 hW
    simp only at h1 h2
    rw [hn] at h1
    rw [hm] at h2
    have h3 := hx.nc
    have h4 := hx.cm
    simp only at h3 h4
    exact sameMetas_any A B n c m d xs ys W h1 hn (fun x hq => (hx.ok x hq).mod0 hW) h2 hm (fun x hq => (hy.ok x hq).mod0 hW) (by omega)
  have HC := Lib.hid hcall
  have hv : xx = ⟨gen, next, log, seq, xs.map (·.m)⟩ := hxx.symm
  have hv' : yy = ⟨gen', next', log', seq', ys.map (·.m)⟩ := hyy.symm
  have HV := Lib.hid hv
  have HV' := Lib.hid hv'
  have hno : xx ≠ yy → R = false := fun h => by rw [← HR.out]; exact decide_eq_false h
  have HNO := Lib.hid hno
  unfold Vw.val
  simp only
  rw [hn, hm]
  have hbx : Blk ((w.alloc (.cells #[.int .i64 gen, .int .i64 next, .int .i64 log, .int .i64 seq, .slice A n c] 30)).alloc (.cells #[.int .i64 gen', .int .i64 next', .int .i64 log', .int .i64 seq', .slice B m d] 30)) w.heap.size 30 #[.int .i64 gen, .int .i64 next, .int .i64 log, .int .i64 seq, .slice A n c] := (Blk.new w _ _).alloc _
  have hby : Blk ((w.alloc (.cells #[.int .i64 gen, .int .i64 next, .int .i64 log, .int .i64 seq, .slice A n c] 30)).alloc (.cells #[.int .i64 gen', .int .i64 next', .int .i64 log', .int .i64 seq', .slice B m d] 30)) (w.heap.size + 1) 30 #[.int .i64 gen', .int .i64 next', .int .i64 log', .int .i64 seq', .slice B m d] := by
    have := Blk.new (w.alloc (.cells #[.int .i64 gen, .int .i64 next, .int .i64 log, .int .i64 seq, .slice A n c] 30)) 30 #[.int .i64 gen', .int .i64 next', .int .i64 log', .int .i64 seq', .slice B m d]
    rwa [World.size_alloc] at this
  have HM := Lib.hid (((Mod.refl Non w).alloc (.cells #[.int .i64 gen, .int .i64 next, .int .i64 log, .int .i64 seq, .slice A n c] 30)).alloc (.cells #[.int .i64 gen', .int .i64 next', .int .i64 log', .int .i64 seq', .slice B m d] 30))
  have x0 := hbx.cell 0
  have x1 := hbx.cell 1
  have x2 := hbx.cell 2
  have x3 := hbx.cell 3
  have x4 := hbx.cell 4
  have y0 := hby.cell 0
  have y1 := hby.cell 1
  have y2 := hby.cell 2
  have y3 := hby.cell 3
  have y4 := hby.cell 4
  simp only [List.getElem?_toArray, List.getElem?_cons_zero, List.getElem?_cons_succ] at x0 x1 x2 x3 x4 y0 y1 y2 y3 y4
  clear hcall hv hv' hno hR hxx hyy hx hy hn hm hbx hby
  by_cases q0 : gen = gen'
  · subst q0
    by_cases q1 : next = next'
    · subst q1
      by_cases q2 : log = log'
      · subst q2
        by_cases q3 : seq = seq'
        · subst q3
          have HQ : Hid (decide (xs.map (·.m) = ys.map (·.m)) = R) := by
            show _ = _
            rw [← HR.out, HV.out, HV'.out]
            simp
          go_enter Tryz.func14, Tryz.ntmps14
          go_wp2_with (first
            | (go_at_call 47; refine (HC.out _ HM.out).mono ?_; rw [HQ.out]; rintro e w1 ⟨rfl, hm1⟩; have HM1 := Lib.hid (HM.out.trans0 hm1); clear hm1)
            | fail)
          go_ret
          exact ⟨rfl, HM1.out⟩
        · have HRF := Lib.hid (HNO.out (fun e => q3 (by rw [HV.out, HV'.out] at e; injection e)))
          have hs2 : (seq == seq') = false := beq_eq_false_iff_ne.2 q3
          have hs3 : decide (seq = seq') = false := decide_eq_false q3
          go_enter Tryz.func14, Tryz.ntmps14
          go_wp2_with fail
          go_ret
          exact ⟨by rw [HRF.out]; rfl, HM.out⟩
      · have HRF := Lib.hid (HNO.out (fun e => q2 (by rw [HV.out, HV'.out] at e; injection e)))
        have hs2 : (log == log') = false := beq_eq_false_iff_ne.2 q2
        have hs3 : decide (log = log') = false := decide_eq_false q2
        go_enter Tryz.func14, Tryz.ntmps14
        go_wp2_with fail
        go_ret
        exact ⟨by rw [HRF.out]; rfl, HM.out⟩
    · have HRF := Lib.hid (HNO.out (fun e => q1 (by rw [HV.out, HV'.out] at e; injection e)))
      have hs2 : (next == next') = false := beq_eq_false_iff_ne.2 q1
      have hs3 : decide (next = next') = false := decide_eq_false q1
      go_enter Tryz.func14, Tryz.ntmps14
      go_wp2_with fail
      go_ret
      exact ⟨by rw [HRF.out]; rfl, HM.out⟩
  · have HRF := Lib.hid (HNO.out (fun e => q0 (by rw [HV.out, HV'.out] at e; injection e)))
    have hs2 : (gen == gen') = false := beq_eq_false_iff_ne.2 q0
    have hs3 : decide (gen = gen') = false := decide_eq_false q0
    go_enter Tryz.func14, Tryz.ntmps14
    go_wp2_with fail
    go_ret
    exact ⟨by rw [HRF.out]; rfl, HM.out⟩

end Go.Proofs.YtdpjnpjmokncdaaGreatDoor
