/- edit.Decode: what is kept between two rounds. -/
import Derived.Test.YtdpjnpjmokncdaaGreatDoorB30
import Derived.Laws.ResultCell
import Derived.Laws.Rows
import Derived.Test.YtdpjnpjmokncdaaGreatDoorB10
import Derived.Test.YtdpjnpjmokncdaaGreatDoorB15
import Derived.BigQuiet
import Derived.Test.YtdpjnpjmokncdaaGreatDoorB28
namespace Go.Proofs.YtdpjnpjmokncdaaGreatDoor
open Go.RowKit

/-- what Decode answers. -/
def DePost (l : List UInt8) (w : World) (e : Ending) (w' : World) : Prop := match decV l with
  | some v => ∃ x : Vw, x.v = v ∧ e = .returned (.tuple #[x.val, .int .i64 0]) ∧ VwOk w' x ∧ (∀ (S : Nat → Prop) w'', (∀ i, S i → i < w.heap.size) → Mod S w' w'' → VwOk w'' x) ∧ Mod Non w w'
  | none => e = .returned (.tuple #[.agg #[.int .i64 0, .int .i64 0, .int .i64 0, .int .i64 0, .slice none 0 0], .int .i64 2]) ∧ Mod Non w w'

/-- what the loop may turn. -/
def DeF (vb : Nat) (Av : Option Addr) (k : Nat) : Prop := k ≤ vb ∨ blkOf Av = some k

theorem own_blk (A : Option Addr) (n c : Nat) : (Value.slice A n c).ownBlock = blkOf A := by cases A <;> rfl

/-- between two rounds. -/
structure DeM (w0 : World) (rb vb : Nat) (g1 g2 g3 g4 : Int) (T : List Mt × Rs) (k : Nat) (nn : Int) (wr : World) (Av : Option Addr) (cv : Nat) (ms : List Mw) (s : Rs) (A : Option Addr) (n c : Nat) : Prop where
  mod : Mod (fun k => k = rb ∨ k = vb) w0 wr
  vbk : Blk wr vb 34 #[.int .i64 g1, .int .i64 g2, .int .i64 g3, .int .i64 g4, .slice Av k cv]
  rs : RsAt wr rb s A n c
  own : wr.ownsRow w0.heap.size 95 5 (.slice Av k cv) k (ms.flatMap Mw.cells)
  ln : ms.length = k
  ok : ∀ m ∈ ms, MwO wr (DeF vb Av) m
  tabs : tabsP (4097 - k) nn s (ms.map (·.m)) = T


theorem de_next {w0 : World} {rb vb : Nat} {g1 g2 g3 g4 : Int} {T : List Mt × Rs} {k : Nat} {nn nn' : Int} {wr : World} {Av : Option Addr} {cv : Nat} {ms : List Mw} {s t5 : Rs} {A : Option Addr} {n c : Nat}
    {u3 u4 u5 qw : World} {x : Mw} {B5 : Option Addr} {m5 d5 : Nat} {o : Obj} {qA : Option Addr} {qc : Nat}
    (HP : DeM w0 rb vb g1 g2 g3 g4 T k nn wr Av cv ms s A n c) (hrv : rb < vb) (hv0 : vb < w0.heap.size)
    (Y3 : Mod (fun i => i = rb) wr u3) (Y4 : Mod (fun i => i = rb) wr u4) (_Y34 : u3.heap.size ≤ u4.heap.size) (Y45 : Mod (fun i => i = rb) u4 u5)
    (z4 : Rd u4 x.A x.m.first.length (by8 x.m.first) ∧ x.m.first.length ≤ x.ca ∧ x.ca ≤ 9223372036854775807 ∧ ∀ b, blkOf x.A = some b → u3.heap.size ≤ b)
    (z5 : Rd u5 x.B x.m.last.length (by8 x.m.last) ∧ x.m.last.length ≤ x.cb ∧ x.cb ≤ 9223372036854775807 ∧ ∀ b, blkOf x.B = some b → u4.heap.size ≤ b)
    (X5 : RsAt u5 rb t5 B5 m5 d5) (YF : 0 < m5 → ∀ b, blkOf B5 = some b → u4.heap.size ≤ b)
    (qg : (u5.alloc o).grownBy qw (Value.slice Av k cv).ownBlock)
    (qat : blkOf qA = (Value.slice Av k cv).ownBlock ∨ blkOf qA = some (u5.alloc o).heap.size)
    (qown : qw.ownsRow w0.heap.size 95 5 (.slice qA (k + 1) qc) (k + 1) ((ms ++ [x]).flatMap Mw.cells))
    (htab : tabsP (4097 - (k + 1)) nn' t5 (ms.map (·.m) ++ [x.m]) = T) :
    DeM w0 rb vb g1 g2 g3 g4 T (k + 1) nn' (qw.setCell ⟨vb, 4, none⟩ (.slice qA (k + 1) qc)) qA qc (ms ++ [x]) t5 B5 m5 d5 := by
  rw [own_blk] at qg qat
  rw [World.size_alloc] at qat
  have hlv : ∀ b, blkOf Av = some b → w0.heap.size ≤ b ∧ b < wr.heap.size := fun b hb => HP.own.lt b (by rw [own_blk]; exact hb)
  have hlq : ∀ b, blkOf qA = some b → w0.heap.size ≤ b ∧ b < qw.heap.size := fun b hb => qown.lt b (by rw [own_blk]; exact hb)
  have s0 := HP.mod.size
  have s3 := Y3.size
  have s4 := Y4.size
  have s5 := Y45.size
  -- from u5 to the end
  have m5q : Mod (fun i => blkOf Av = some i) u5 qw := ((Mod.refl _ u5).alloc o).trans (Mod.of_grown (S := fun i => blkOf Av = some i) qg fun i h => h) fun i h => .inl h
  have m5f : Mod (fun i => i = vb ∨ blkOf Av = some i) u5 (qw.setCell ⟨vb, 4, none⟩ (.slice qA (k + 1) qc)) :=
    (m5q.mono fun i h => .inr h).setCell (p := ⟨vb, 4, none⟩) (.inl (.inl rfl)) _
  have mrf0 : Mod (fun i => i = rb ∨ i = vb ∨ blkOf Av = some i) wr (qw.setCell ⟨vb, 4, none⟩ (.slice qA (k + 1) qc)) :=
    ((Y4.trans Y45 fun i h => .inl h).mono fun i h => .inl h).trans m5f fun i h => .inl (h.elim (fun h => .inr (.inl h)) fun h => .inr (.inr h))
  have mrf : Mod (DeF vb Av) wr (qw.setCell ⟨vb, 4, none⟩ (.slice qA (k + 1) qc)) := mrf0.mono fun i h => by
    rcases h with h | h | h
    · exact .inl (by omega)
    · exact .inl (by omega)
    · exact .inr h
  have m4f0 : Mod (fun i => i = rb ∨ i = vb ∨ blkOf Av = some i) u4 (qw.setCell ⟨vb, 4, none⟩ (.slice qA (k + 1) qc)) :=
    (Y45.mono fun i h => .inl h).trans m5f fun i h => .inl (h.elim (fun h => .inr (.inl h)) fun h => .inr (.inr h))
  have m4f : Mod (DeF vb Av) u4 (qw.setCell ⟨vb, 4, none⟩ (.slice qA (k + 1) qc)) := m4f0.mono fun i h => by
    rcases h with h | h | h
    · exact .inl (by omega)
    · exact .inl (by omega)
    · exact .inr h
  have hF' : ∀ i, DeF vb qA i → DeF vb Av i ∨ wr.heap.size ≤ i := fun i h => by
    rcases h with h | h
    · exact .inl (.inl h)
    · rcases qat with q | q
      · rw [q] at h
        exact .inl (.inr h)
      · rw [q] at h
        cases h
        exact .inr (by omega)
  have hFb : ∀ i, DeF vb qA i → i < wr.heap.size ∨ i = u5.heap.size + 1 := fun i h => by
    rcases h with h | h
    · exact .inl (by omega)
    · rcases qat with q | q
      · rw [q] at h
        exact .inl (hlv _ h).2
      · rw [q] at h
        cases h
        exact .inr rfl
  have hFa : ∀ i, DeF vb Av i → i < wr.heap.size := fun i h => by
    rcases h with h | h
    · omega
    · exact (hlv _ h).2
  refine ⟨?_, ?_, ?_, ?_, by rw [List.length_append, HP.ln]; rfl, ?_, by rw [List.map_append]; exact htab⟩
  · refine HP.mod.trans mrf0 fun i h => ?_
    rcases h with h | h | h
    · exact .inl (.inl h)
    · exact .inl (.inr h)
    · exact .inr (hlv _ h).1
  · have hb : Blk qw vb 34 #[.int .i64 g1, .int .i64 g2, .int .i64 g3, .int .i64 g4, .slice Av k cv] :=
      ((HP.vbk.mod (Y4.trans Y45 fun i h => .inl h) (by omega)).mod m5q fun h => by have := (hlv _ h).1; omega)
    exact hb.set_ 4 _
  · refine X5.mod m5f (fun h => ?_) fun h0 b hb h => ?_
    · rcases h with h | h
      · omega
      · have := (hlv _ h).1
        omega
    · have := YF h0 b hb
      rcases h with h | h
      · omega
      · have := (hlv _ h).2
        omega
  · refine own_mod qown ((Mod.refl (fun i => i = vb) qw).setCell (p := ⟨vb, 4, none⟩) (.inl rfl) _) fun b hb h => ?_
    rw [own_blk] at hb
    have := (hlq _ hb).1
    omega
  · intro m hm
    rcases List.mem_append.1 hm with hm | hm
    · exact (HP.ok m hm).next mrf hF'
    · rw [List.mem_singleton.1 hm]
      refine ⟨⟨z4.1.mod m4f fun h0 b hb h => ?_, fun h0 b hb h => ?_⟩, ⟨z5.1.mod m5f fun h0 b hb h => ?_, fun h0 b hb h => ?_⟩, ⟨z4.2.1, z4.2.2.1⟩, ⟨z5.2.1, z5.2.2.1⟩⟩
      · have := z4.2.2.2 b hb
        have := hFa b h
        omega
      · have h1 := z4.2.2.2 b hb
        obtain ⟨b', hb', h2⟩ := z4.1.lt h0
        rw [hb] at hb'
        cases hb'
        rcases hFb b h with h | h <;> omega
      · have := z5.2.2.2 b hb
        rcases h with h | h
        · omega
        · have := (hlv _ h).2
          omega
      · have h1 := z5.2.2.2 b hb
        obtain ⟨b', hb', h2⟩ := z5.1.lt h0
        rw [hb] at hb'
        cases hb'
        rcases hFb b h with h | h <;> omega

theorem de_vw {w0 : World} {rb vb : Nat} {g1 g2 g3 g4 : Int} {T : List Mt × Rs} {k : Nat} {nn : Int} {wr : World} {Av : Option Addr} {cv : Nat} {ms : List Mw} {s : Rs} {A : Option Addr} {n c : Nat}
    (HP : DeM w0 rb vb g1 g2 g3 g4 T k nn wr Av cv ms s A n c) (hv0 : vb < w0.heap.size) {S : Nat → Prop} (hS : ∀ i, S i → i ≤ vb) {w' : World} (hm : Mod S wr w') : VwOk w' ⟨g1, g2, g3, g4, Av, cv, ms⟩ := by
  have hlv : ∀ b, blkOf Av = some b → w0.heap.size ≤ b ∧ b < wr.heap.size := fun b hb => HP.own.lt b (by rw [own_blk]; exact hb)
  obtain ⟨hkc, hkm⟩ : k ≤ cv ∧ cv ≤ 9223372036854775807 := by
    obtain ⟨A', c', he, h1, h2⟩ := own_slice HP.own
    cases he
    exact ⟨h1, h2⟩
  refine ⟨?_, by simp only; rw [HP.ln]; exact hkc, hkm, fun m hx => ?_⟩
  · have := (Rd.of_own5 HP.own).mod hm fun _ b hb h => by
      have := (hlv b hb).1
      have := hS b h
      omega
    simp only
    rw [HP.ln]
    exact this
  · have hx := HP.ok m hx
    exact ⟨hx.a.1.mod hm fun h0 b hb h => hx.a.2 h0 b hb (.inl (hS b h)), hx.b.1.mod hm fun h0 b hb h => hx.b.2 h0 b hb (.inl (hS b h)), hx.a1, hx.b1⟩

theorem results_rowtmp {P : Program} {fn : Func} {p u : Tmp} {ty : TypeId} (h : fn.results = #[.cell p ty, .tmp u]) (tmps : Array Value) (w : World) (g : Nat) (t : TypeId) (cs : Array Value) (d : TypeDesc)
    (hp : tmps.getD p undef = .pointer (some ⟨g, 0, none⟩)) (hg : Blk w g t cs)
    (hu : P.underlying ty = some d) (hd : (match d with | .struct _ | .array _ _ => true | _ => false) = true) (hi : (P.info? ty).map (·.size) = some cs.size) (x : Value) (hx : tmps.getD u undef = x) :
    (results fn tmps).run P w = .ok (.tuple #[.agg cs, x]) w := by
  rw [results_cell_tmp h, hp, hx]
  simp only [asAddr, Sem.run_pure, Result.andThen_ok]
  rw [run_loadVar_row w g t ty cs (0, 0) d hg hu hd hi]
  rfl
theorem Blk.five {w : World} {g : Nat} {t : TypeId} {x0 x1 x2 x3 x4 : Value} (h : Blk w g t #[x0, x1, x2, x3, x4]) (a b c d e : Value) :
    Blk (((((w.setCell ⟨g, 0, none⟩ a).setCell ⟨g, 1, none⟩ b).setCell ⟨g, 2, none⟩ c).setCell ⟨g, 3, none⟩ d).setCell ⟨g, 4, none⟩ e) g t #[a, b, c, d, e] :=
  ((((h.set_ 0 a).set_ 1 b).set_ 2 c).set_ 3 d).set_ 4 e
theorem set5 {w W : World} (h : Mod Non w W) (a b c d e : Value) : Mod Non w (((((W.setCell ⟨w.heap.size, 0, none⟩ a).setCell ⟨w.heap.size, 1, none⟩ b).setCell ⟨w.heap.size, 2, none⟩ c).setCell ⟨w.heap.size, 3, none⟩ d).setCell ⟨w.heap.size, 4, none⟩ e) :=
  ((((h.setCell (p := ⟨w.heap.size, 0, none⟩) (.inr (Nat.le_refl _)) _).setCell (p := ⟨w.heap.size, 1, none⟩) (.inr (Nat.le_refl _)) _).setCell (p := ⟨w.heap.size, 2, none⟩) (.inr (Nat.le_refl _)) _).setCell (p := ⟨w.heap.size, 3, none⟩) (.inr (Nat.le_refl _)) _).setCell (p := ⟨w.heap.size, 4, none⟩) (.inr (Nat.le_refl _)) _
theorem set5b {w W : World} {g : Nat} (h : Mod Non w W) (hg : w.heap.size ≤ g) (a b c d e : Value) : Mod Non w (((((W.setCell ⟨g, 0, none⟩ a).setCell ⟨g, 1, none⟩ b).setCell ⟨g, 2, none⟩ c).setCell ⟨g, 3, none⟩ d).setCell ⟨g, 4, none⟩ e) :=
  ((((h.setCell (p := ⟨g, 0, none⟩) (.inr hg) _).setCell (p := ⟨g, 1, none⟩) (.inr hg) _).setCell (p := ⟨g, 2, none⟩) (.inr hg) _).setCell (p := ⟨g, 3, none⟩) (.inr hg) _).setCell (p := ⟨g, 4, none⟩) (.inr hg) _

end Go.Proofs.YtdpjnpjmokncdaaGreatDoor

/- mine, theirs: a version copied, table by table. -/
namespace Go.Proofs.YtdpjnpjmokncdaaGreatDoor
open Go.RowKit

/-- a version in memory that S leaves alone. -/
structure VwO (w : World) (S : Nat → Prop) (x : Vw) : Prop where
  row : RdO w S x.A (x.ms.length * 5) (x.ms.flatMap Mw.cells)
  nc : x.ms.length ≤ x.c
  cm : x.c ≤ 9223372036854775807
  ok : ∀ m ∈ x.ms, MwO w S m
theorem VwO.next {F F' : Nat → Prop} {w w' : World} {x : Vw} (h : VwO w F x) (hm : Mod F w w') (hF : ∀ k, F' k → F k ∨ w.heap.size ≤ k) : VwO w' F' x :=
  ⟨h.row.next hm hF, h.nc, h.cm, fun m hx => (h.ok m hx).next hm hF⟩
theorem VwO.out {F : Nat → Prop} {w : World} {x : Vw} (h : VwO w F x) : VwOk w x := ⟨h.row.1, h.nc, h.cm, fun m hx => (h.ok m hx).ok⟩
theorem VwOk.off {F : Nat → Prop} {W w : World} {x : Vw} (h0 : VwOk W x) (h : VwOk w x) (hF : ∀ k, F k → W.heap.size ≤ k) : VwO w F x := by
  have key : ∀ {A : Option Addr} {n : Nat} {vs : List Value}, Rd W A n vs → 0 < n → Off F A := fun hr hn b hb hf => by
    obtain ⟨b', hb', hl⟩ := hr.lt hn
    rw [hb] at hb'
    cases hb'
    have := hF b hf
    omega
  exact ⟨⟨h.row, key h0.row⟩, h.nc, h.cm, fun m hx => ⟨⟨(h.ok m hx).a, key (h0.ok m hx).a⟩, ⟨(h.ok m hx).b, key (h0.ok m hx).b⟩, (h.ok m hx).a1, (h.ok m hx).b1⟩⟩
theorem VwOk.drewN {w : World} {x : Vw} (h : VwOk w x) (n : Nat) : VwOk (w.drewN n) x := h.mod0 ((Mod.refl Non w).drewN n)

theorem wpList_app5 {t e : TypeId} (ht : Tryz.prog.underlying t = some (.slice e)) (hT : ∃ i z, Tryz.prog.info? e = some i ∧ i.zero = some z ∧ i.size = 5 ∧ i.bytes = 72 ∧ z.cells.size = 5)
    (w : World) {ops : Array Oper} {rest : List Oper} {o : Oper} {a : Act} {Q : Exit → Act → World → Prop} (hgd : o.guard = none) (s x : Operand)
    (ho : o.op = .call { callee := .builtin .append, args := #[s, x], argTypes := #[t, t] })
    (base : Nat) (v : Value) (n : Nat) (xs : List Mw) (hs : a.eval s = v) (hown : w.ownsRow base e 5 v n (xs.flatMap Mw.cells))
    (b c : Nat) (m : Mw) (hx : a.eval x = .slice (some ⟨b, 0, none⟩) 1 c) (hr : Rd w (some ⟨b, 0, none⟩) (1 * 5) m.cells)
    (h63 : n + 1 ≤ 1000000000) (hbase : base ≤ w.heap.size)
    (h : ∀ A' c' w', n + 1 ≤ c' → c' ≤ 9223372036854775807 → w'.ownsRow base e 5 (.slice A' (n + 1) c') (n + 1) ((xs ++ [m]).flatMap Mw.cells) → w.grownBy w' v.ownBlock → (blkOf A' = v.ownBlock ∨ blkOf A' = some w.heap.size) → wpList Tryz.prog ops Q rest (a.put o.dst (.slice A' (n + 1) c')) w') : wpList Tryz.prog ops Q (o :: rest) a w := by
  obtain ⟨i, z, hi, hz, hs1, hb, hzs⟩ := hT
  refine wpList_plain hgd fun K hK => ?_
  obtain ⟨v', w', hrun, h2, h3, h4⟩ := run_app5 (P := Tryz.prog) w base t o.type e i z 72 ht hi hz hs1 hb hzs v n (xs.flatMap Mw.cells) hown b c m.cells hr (mw_one _) (by simp only [maxLen]; omega) (by omega) hbase
  obtain ⟨A', c', rfl, hc, hcm⟩ := own_slice h2
  unfold Oper.wp execOp
  simp only [ho, resolve, invoke, builtin, Sem.run_bind, Sem.run_pure, Result.andThen_ok, List.map_toArray, List.map_cons, List.map_nil, hs, hx, hrun]
  have hfm : (xs ++ [m]).flatMap Mw.cells = xs.flatMap Mw.cells ++ m.cells := by simp
  rw [← hfm] at h2
  exact hK _ _ (h A' c' w' hc (by have : maxLen = 9223372036854775807 := rfl; omega) h2 h3 (by cases A' <;> exact h4))
theorem rowMr : ∃ i z, Tryz.prog.info? 62 = some i ∧ i.zero = some z ∧ i.size = 5 ∧ i.bytes = 72 ∧ z.cells.size = 5 := by
  obtain ⟨i, hi, h1, h2, h3⟩ := info_parts (P := Tryz.prog) (e := 62) (z := .agg #[.int .i64 0, .int .i64 0, .int .i64 0, .slice none 0 0, .slice none 0 0]) (size := 5) (bytes := 72) (by kernel_rfl)
  exact ⟨i, _, hi, h1, h2, h3, rfl⟩

/-- memory between two rounds. -/
structure CpM (ts td : TypeId) (w : World) (x : Vw) (k : Nat) (Av : Option Addr) (cv : Nat) (wr : World) : Prop where
  mod : Mod Non w wr
  src : Blk wr w.heap.size ts #[.int .i64 x.gen, .int .i64 x.next, .int .i64 x.log, .int .i64 x.seq, .slice x.A x.ms.length x.c]
  res : Blk wr (w.heap.size + 1) td #[.int .i64 0, .int .i64 0, .int .i64 0, .int .i64 0, .slice none 0 0]
  dst : Blk wr (w.heap.size + 1 + 1) td #[.int .i64 x.gen, .int .i64 x.next, .int .i64 x.log, .int .i64 x.seq, .slice Av k cv]

set_option maxRecDepth 100000 in
set_option maxHeartbeats 4000000 in
theorem mine_any (x : Vw) (w : World) (h : VwOk w x) (hlen : x.ms.length ≤ 100000000) :
    Calls Tryz.prog 12 #[x.val] w fun e w' => ∃ A' c', e = .returned (Vw.val ⟨x.gen, x.next, x.log, x.seq, A', c', x.ms⟩) ∧ VwOk w' ⟨x.gen, x.next, x.log, x.seq, A', c', x.ms⟩ ∧ (∀ b, blkOf A' = some b → w.heap.size ≤ b) ∧ Mod Non w w' := by
  have HX := Lib.hid h
  obtain ⟨X, hX⟩ : ∃ X, x = X := ⟨_, rfl⟩
  rw [hX] at HX
  obtain ⟨gen, next, log, seq, A, c, ms⟩ := x
  obtain ⟨n, hn⟩ : ∃ n, ms.length = n := ⟨_, rfl⟩
  have HXE := Lib.hid hX
  have HNN := Lib.hid hn
  have hrow := h.row
  simp only at hrow
  rw [hn] at hrow
  have HROW := Lib.hid hrow
  simp only at hlen
  rw [hn] at hlen
  unfold Vw.val
  simp only
  rw [hn]
  have hst : CpM 30 34 w ⟨gen, next, log, seq, A, c, ms⟩ 0 none 0 (((w.alloc (.cells #[.int .i64 gen, .int .i64 next, .int .i64 log, .int .i64 seq, .slice A n c] 30)).alloc (.cells #[.int .i64 0, .int .i64 0, .int .i64 0, .int .i64 0, .slice none 0 0] 34)).alloc (.cells #[.int .i64 gen, .int .i64 next, .int .i64 log, .int .i64 seq, .slice none 0 0] 34)) := by
    refine ⟨(((Mod.refl _ _).alloc _).alloc _).alloc _, ?_, ?_, ?_⟩
    · simp only
      rw [hn]
      exact ((Blk.new w _ _).alloc _).alloc _
    · have := (Blk.new (w.alloc (.cells #[.int .i64 gen, .int .i64 next, .int .i64 log, .int .i64 seq, .slice A n c] 30)) 34 #[.int .i64 0, .int .i64 0, .int .i64 0, .int .i64 0, .slice none 0 0]).alloc (.cells #[.int .i64 gen, .int .i64 next, .int .i64 log, .int .i64 seq, .slice none 0 0] 34)
      rwa [World.size_alloc] at this
    · have := Blk.new ((w.alloc (.cells #[.int .i64 gen, .int .i64 next, .int .i64 log, .int .i64 seq, .slice A n c] 30)).alloc (.cells #[.int .i64 0, .int .i64 0, .int .i64 0, .int .i64 0, .slice none 0 0] 34)) 34 #[.int .i64 gen, .int .i64 next, .int .i64 log, .int .i64 seq, .slice none 0 0]
      rwa [World.size_alloc, World.size_alloc] at this
  have HST := Lib.hid hst
  have hsz : w.heap.size + 3 ≤ (((w.alloc (.cells #[.int .i64 gen, .int .i64 next, .int .i64 log, .int .i64 seq, .slice A n c] 30)).alloc (.cells #[.int .i64 0, .int .i64 0, .int .i64 0, .int .i64 0, .slice none 0 0] 34)).alloc (.cells #[.int .i64 gen, .int .i64 next, .int .i64 log, .int .i64 seq, .slice none 0 0] 34)).heap.size := by simp only [World.size_alloc]; omega
  clear hst hn hX hrow h
  go_enter Tryz.func12, Tryz.ntmps12
  go_wp2_with fail
  go_loopw [4] (fun i wr => ∃ (k cv : Nat) (Av : Option Addr), k ≤ n ∧ i = .int .i64 k ∧ w.heap.size + 3 ≤ wr.heap.size ∧ Hid (CpM 30 34 w ⟨gen, next, log, seq, A, c, ms⟩ k Av cv wr) ∧ Hid (wr.ownsRow (w.heap.size + 3) 95 5 (.slice Av k cv) k ((ms.take k).flatMap Mw.cells))) (fun i _ => n - (intOf i).toNat)
  case atStart => exact ⟨0, 0, none, Nat.zero_le _, rfl, hsz, HST.out, World.ownsRow_nil _ _ _ _⟩
  case round =>
    obtain ⟨k, cv, Av, hk, rfl, hsr, HP, HOWN⟩ := hrel
    have c14 : wr.cell? ⟨w.heap.size, 4, none⟩ = some (.slice A n c) := by
      have := HP.out.src.cell 4
      simp only at this
      rw [HNN.out] at this
      exact this
    by_cases hlt : k < n
    · obtain ⟨b, o, y, rfl, hy, g0, g1, g2, g3, g4⟩ := (HROW.out.mod0 HP.out.mod).mw HNN.out hlt
      have i1 : (0 : Int) ≤ (k : Int) := by omega
      have i2 : (k : Int) < (n : Int) := by omega
      have HSN := Lib.hid (take_snoc' ms k y hy)
      have hbl : b < wr.heap.size := World.block_lt_of_cell? wr _ g0
      obtain ⟨⟨num, level, count, first, last⟩, YA, ca, YB, cb⟩ := y
      simp only at g0 g1 g2 g3 g4
      obtain ⟨n1, hn1⟩ : ∃ n1, first.length = n1 := ⟨_, rfl⟩
      obtain ⟨n2, hn2⟩ : ∃ n2, last.length = n2 := ⟨_, rfl⟩
      have HN1 := Lib.hid hn1
      have HN2 := Lib.hid hn2
      rw [hn1] at g3
      rw [hn2] at g4
      have HB5 := Lib.hid (Blk.new wr 62 #[.int .i64 num, .int .i64 level, .int .i64 count, .slice YA n1 ca, .slice YB n2 cb])
      have e0 := HB5.out.cell 0
      have e1 := HB5.out.cell 1
      have e2 := HB5.out.cell 2
      have e3 := HB5.out.cell 3
      have e4 := HB5.out.cell 4
      have HPA := Lib.hid ((HP.out.dst.alloc (.cells #[.int .i64 num, .int .i64 level, .int .i64 count, .slice YA n1 ca, .slice YB n2 cb] 62)))
      have d4 : (wr.alloc (.cells #[.int .i64 num, .int .i64 level, .int .i64 count, .slice YA n1 ca, .slice YB n2 cb] 62)).cell? ⟨w.heap.size + 1 + 1, 4, none⟩ = some (.slice Av k cv) := HPA.out.cell 4
      obtain ⟨wq, hwq⟩ : ∃ wq, (wr.alloc (.cells #[.int .i64 num, .int .i64 level, .int .i64 count, .slice YA n1 ca, .slice YB n2 cb] 62)).alloc (.cells #[.int .i64 num, .int .i64 level, .int .i64 count, .slice YA n1 ca, .slice YB n2 cb] 95) = wq := ⟨_, rfl⟩
      have hmq : Mod Non wr wq := by rw [← hwq]; exact ((Mod.refl _ _).alloc _).alloc _
      have HMQ := Lib.hid hmq
      have HWQ := Lib.hid hwq
      have hrow := HOWN.out.lt
      have hownq := own_mod (S := Non) HOWN.out hmq (fun _ _ h => h)
      have HOQ := Lib.hid hownq
      have hone : Rd wq (some ⟨wr.heap.size + 1, 0, none⟩) (1 * 5) (Mw.cells ⟨⟨num, level, count, first, last⟩, YA, ca, YB, cb⟩) := by
        have := one_meta (wr.alloc (.cells #[.int .i64 num, .int .i64 level, .int .i64 count, .slice YA n1 ca, .slice YB n2 cb] 62)) 95 ⟨⟨num, level, count, first, last⟩, YA, ca, YB, cb⟩
        simp only [World.size_alloc] at this
        rw [hn1, hn2, hwq] at this
        exact this
      have HONE := Lib.hid hone
      clear hy hn1 hn2 hwq hmq hownq hone
      go_wp2_with (first
        | (at_builtin
           rw [HWQ.out]
           refine wpList_app5 Tryz.underlying32 rowM _ rfl (.tmp 28) (.tmp 40) rfl (w.heap.size + 3) (.slice Av k cv) k (ms.take k) rfl HOQ.out (wr.heap.size + 1) 1 ⟨⟨num, level, count, first, last⟩, YA, ca, YB, cb⟩ rfl HONE.out (by omega) (by have := HMQ.out.size; omega) ?_
           intro A' c' w' hc' hcm' hown' hg' hat'
           have hmg : Mod (fun g => (Value.slice Av k cv).ownBlock = some g) wq w' := Mod.of_grown hg' fun _ h => h
           have hmr : Mod (fun g => (Value.slice Av k cv).ownBlock = some g) wr w' := HMQ.out.non.trans hmg fun g hg => .inl hg
           have HMR := Lib.hid hmr
           have hfar : ∀ g, (Value.slice Av k cv).ownBlock = some g → w.heap.size + 3 ≤ g := fun g hg => (hrow g hg).1
           have hdst := HP.out.dst.mod hmr (fun h => by have := hfar _ h; omega)
           have HDST := Lib.hid hdst
           have d4' : w'.cell? ⟨w.heap.size + 1 + 1, 4, none⟩ = some (.slice Av k cv) := hdst.cell 4
           have fd4 := hdst.frozen 4
           have HO2 := Lib.hid hown'
           clear hmg hmr hdst hown' hg' hat')
        | fail)
      go_roundw
      case rel =>
        have hms : Mod (fun g => g = w.heap.size + 1 + 1) w' (w'.setCell ⟨w.heap.size + 1 + 1, 4, none⟩ (.slice A' (k + 1) c')) := (Mod.refl _ _).set1 4 _
        refine ⟨k + 1, c', A', by omega, by go_num, by have h1 := HMR.out.size; have h2 := hms.size; omega, ⟨?_, ?_, ?_, HDST.out.set_ 4 _⟩, ?_⟩
        · exact ((HP.out.mod.non.trans HMR.out fun g hg => .inr (by have := hfar g hg; omega)).trans hms fun g hg => .inr (by omega))
        · exact (HP.out.src.mod HMR.out (fun h => by have := hfar _ h; omega)).mod hms (by omega)
        · exact (HP.out.res.mod HMR.out (fun h => by have := hfar _ h; omega)).mod hms (by omega)
        · show World.ownsRow _ _ _ _ _ _ _
          rw [HSN.out]
          refine own_mod HO2.out hms fun b hb e => ?_
          have := (HO2.out.lt b hb).1
          omega
      case measure => simp [intOf]; omega
    · obtain rfl : k = n := by omega
      have hbd := HP.out.dst
      have u0 : wr.cell? ⟨w.heap.size + 1 + 1, 0, none⟩ = some (.int .i64 gen) := hbd.cell 0
      have u1 : wr.cell? ⟨w.heap.size + 1 + 1, 1, none⟩ = some (.int .i64 next) := hbd.cell 1
      have u2 : wr.cell? ⟨w.heap.size + 1 + 1, 2, none⟩ = some (.int .i64 log) := hbd.cell 2
      have u3 : wr.cell? ⟨w.heap.size + 1 + 1, 3, none⟩ = some (.int .i64 seq) := hbd.cell 3
      have u4 : wr.cell? ⟨w.heap.size + 1 + 1, 4, none⟩ = some (.slice Av k cv) := hbd.cell 4
      have hbr := HP.out.res
      have r0 : wr.cell? ⟨w.heap.size + 1, 0, none⟩ = some (.int .i64 0) := hbr.cell 0
      have r1 : wr.cell? ⟨w.heap.size + 1, 1, none⟩ = some (.int .i64 0) := hbr.cell 1
      have r2 : wr.cell? ⟨w.heap.size + 1, 2, none⟩ = some (.int .i64 0) := hbr.cell 2
      have r3 : wr.cell? ⟨w.heap.size + 1, 3, none⟩ = some (.int .i64 0) := hbr.cell 3
      have r4 : wr.cell? ⟨w.heap.size + 1, 4, none⟩ = some (.slice none 0 0) := hbr.cell 4
      have f0 := hbr.frozen 0
      have f1 := hbr.frozen 1
      have f2 := hbr.frozen 2
      have f3 := hbr.frozen 3
      have f4 := hbr.frozen 4
      have HBR := Lib.hid hbr
      clear hbd hbr
      go_wp2_with fail
      refine bodyPost_ret (results_cell_row rfl _ _ (w.heap.size + 1) 34 _ (0, 0) _ rfl (HBR.out.five _ _ _ _ _) Tryz.underlying34 rfl (by kernel_rfl)) rfl ?_
      have hm5 := set5b (g := w.heap.size + 1) HP.out.mod (by omega) (.int .i64 gen) (.int .i64 next) (.int .i64 log) (.int .i64 seq) (.slice Av k cv)
      have hm5r : Mod (fun g => g = w.heap.size + 1) wr (((((wr.setCell ⟨w.heap.size + 1, 0, none⟩ (.int .i64 gen)).setCell ⟨w.heap.size + 1, 1, none⟩ (.int .i64 next)).setCell ⟨w.heap.size + 1, 2, none⟩ (.int .i64 log)).setCell ⟨w.heap.size + 1, 3, none⟩ (.int .i64 seq)).setCell ⟨w.heap.size + 1, 4, none⟩ (.slice Av k cv)) := (((((Mod.refl _ _).set1 0 _).set1 1 _).set1 2 _).set1 3 _).set1 4 _
      have hrow2 := (Rd.of_own5 (own_mod HOWN.out hm5r (fun b hb e => by have := (HOWN.out.lt b hb).1; omega)))
      rw [List.take_of_length_le (by rw [HNN.out]; omega)] at hrow2
      obtain ⟨_, _, he, hc1, hc2⟩ := own_slice HOWN.out
      cases he
      have hmx : maxLen = 9223372036854775807 := rfl
      refine ⟨Av, cv, rfl, ⟨?_, ?_, by simp only; omega, fun m hm => ?_⟩, fun b hb => ?_, hm5⟩
      · simp only
        rw [HNN.out]
        exact hrow2
      · simp only
        rw [HNN.out]
        exact hc1
      · refine (HX.out.ok m ?_).mod0 hm5
        rw [← HXE.out]
        exact hm
      · have := own_base HOWN.out b hb
        omega

set_option maxRecDepth 100000 in
set_option maxHeartbeats 4000000 in
theorem theirs_any (x : Vw) (w : World) (h : VwOk w x) (hlen : x.ms.length ≤ 100000000) :
    Calls Tryz.prog 15 #[x.val] w fun e w' => ∃ A' c', e = .returned (Vw.val ⟨x.gen, x.next, x.log, x.seq, A', c', x.ms⟩) ∧ VwOk w' ⟨x.gen, x.next, x.log, x.seq, A', c', x.ms⟩ ∧ (∀ b, blkOf A' = some b → w.heap.size ≤ b) ∧ Mod Non w w' := by
  have HX := Lib.hid h
  obtain ⟨X, hX⟩ : ∃ X, x = X := ⟨_, rfl⟩
  rw [hX] at HX
  obtain ⟨gen, next, log, seq, A, c, ms⟩ := x
  obtain ⟨n, hn⟩ : ∃ n, ms.length = n := ⟨_, rfl⟩
  have HXE := Lib.hid hX
  have HNN := Lib.hid hn
  have hrow := h.row
  simp only at hrow
  rw [hn] at hrow
  have HROW := Lib.hid hrow
  simp only at hlen
  rw [hn] at hlen
  unfold Vw.val
  simp only
  rw [hn]
  have hst : CpM 34 30 w ⟨gen, next, log, seq, A, c, ms⟩ 0 none 0 (((w.alloc (.cells #[.int .i64 gen, .int .i64 next, .int .i64 log, .int .i64 seq, .slice A n c] 34)).alloc (.cells #[.int .i64 0, .int .i64 0, .int .i64 0, .int .i64 0, .slice none 0 0] 30)).alloc (.cells #[.int .i64 gen, .int .i64 next, .int .i64 log, .int .i64 seq, .slice none 0 0] 30)) := by
    refine ⟨(((Mod.refl _ _).alloc _).alloc _).alloc _, ?_, ?_, ?_⟩
    · simp only
      rw [hn]
      exact ((Blk.new w _ _).alloc _).alloc _
    · have := (Blk.new (w.alloc (.cells #[.int .i64 gen, .int .i64 next, .int .i64 log, .int .i64 seq, .slice A n c] 34)) 30 #[.int .i64 0, .int .i64 0, .int .i64 0, .int .i64 0, .slice none 0 0]).alloc (.cells #[.int .i64 gen, .int .i64 next, .int .i64 log, .int .i64 seq, .slice none 0 0] 30)
      rwa [World.size_alloc] at this
    · have := Blk.new ((w.alloc (.cells #[.int .i64 gen, .int .i64 next, .int .i64 log, .int .i64 seq, .slice A n c] 34)).alloc (.cells #[.int .i64 0, .int .i64 0, .int .i64 0, .int .i64 0, .slice none 0 0] 30)) 30 #[.int .i64 gen, .int .i64 next, .int .i64 log, .int .i64 seq, .slice none 0 0]
      rwa [World.size_alloc, World.size_alloc] at this
  have HST := Lib.hid hst
  have hsz : w.heap.size + 3 ≤ (((w.alloc (.cells #[.int .i64 gen, .int .i64 next, .int .i64 log, .int .i64 seq, .slice A n c] 34)).alloc (.cells #[.int .i64 0, .int .i64 0, .int .i64 0, .int .i64 0, .slice none 0 0] 30)).alloc (.cells #[.int .i64 gen, .int .i64 next, .int .i64 log, .int .i64 seq, .slice none 0 0] 30)).heap.size := by simp only [World.size_alloc]; omega
  clear hst hn hX hrow h
  go_enter Tryz.func15, Tryz.ntmps15
  go_wp2_with fail
  go_loopw [4] (fun i wr => ∃ (k cv : Nat) (Av : Option Addr), k ≤ n ∧ i = .int .i64 k ∧ w.heap.size + 3 ≤ wr.heap.size ∧ Hid (CpM 34 30 w ⟨gen, next, log, seq, A, c, ms⟩ k Av cv wr) ∧ Hid (wr.ownsRow (w.heap.size + 3) 62 5 (.slice Av k cv) k ((ms.take k).flatMap Mw.cells))) (fun i _ => n - (intOf i).toNat)
  case atStart => exact ⟨0, 0, none, Nat.zero_le _, rfl, hsz, HST.out, World.ownsRow_nil _ _ _ _⟩
  case round =>
    obtain ⟨k, cv, Av, hk, rfl, hsr, HP, HOWN⟩ := hrel
    have c14 : wr.cell? ⟨w.heap.size, 4, none⟩ = some (.slice A n c) := by
      have := HP.out.src.cell 4
      simp only at this
      rw [HNN.out] at this
      exact this
    by_cases hlt : k < n
    · obtain ⟨b, o, y, rfl, hy, g0, g1, g2, g3, g4⟩ := (HROW.out.mod0 HP.out.mod).mw HNN.out hlt
      have i1 : (0 : Int) ≤ (k : Int) := by omega
      have i2 : (k : Int) < (n : Int) := by omega
      have HSN := Lib.hid (take_snoc' ms k y hy)
      have hbl : b < wr.heap.size := World.block_lt_of_cell? wr _ g0
      obtain ⟨⟨num, level, count, first, last⟩, YA, ca, YB, cb⟩ := y
      simp only at g0 g1 g2 g3 g4
      obtain ⟨n1, hn1⟩ : ∃ n1, first.length = n1 := ⟨_, rfl⟩
      obtain ⟨n2, hn2⟩ : ∃ n2, last.length = n2 := ⟨_, rfl⟩
      have HN1 := Lib.hid hn1
      have HN2 := Lib.hid hn2
      rw [hn1] at g3
      rw [hn2] at g4
      have HB5 := Lib.hid (Blk.new wr 95 #[.int .i64 num, .int .i64 level, .int .i64 count, .slice YA n1 ca, .slice YB n2 cb])
      have e0 := HB5.out.cell 0
      have e1 := HB5.out.cell 1
      have e2 := HB5.out.cell 2
      have e3 := HB5.out.cell 3
      have e4 := HB5.out.cell 4
      have HPA := Lib.hid ((HP.out.dst.alloc (.cells #[.int .i64 num, .int .i64 level, .int .i64 count, .slice YA n1 ca, .slice YB n2 cb] 95)))
      have d4 : (wr.alloc (.cells #[.int .i64 num, .int .i64 level, .int .i64 count, .slice YA n1 ca, .slice YB n2 cb] 95)).cell? ⟨w.heap.size + 1 + 1, 4, none⟩ = some (.slice Av k cv) := HPA.out.cell 4
      obtain ⟨wq, hwq⟩ : ∃ wq, (wr.alloc (.cells #[.int .i64 num, .int .i64 level, .int .i64 count, .slice YA n1 ca, .slice YB n2 cb] 95)).alloc (.cells #[.int .i64 num, .int .i64 level, .int .i64 count, .slice YA n1 ca, .slice YB n2 cb] 62) = wq := ⟨_, rfl⟩
      have hmq : Mod Non wr wq := by rw [← hwq]; exact ((Mod.refl _ _).alloc _).alloc _
      have HMQ := Lib.hid hmq
      have HWQ := Lib.hid hwq
      have hrow := HOWN.out.lt
      have hownq := own_mod (S := Non) HOWN.out hmq (fun _ _ h => h)
      have HOQ := Lib.hid hownq
      have hone : Rd wq (some ⟨wr.heap.size + 1, 0, none⟩) (1 * 5) (Mw.cells ⟨⟨num, level, count, first, last⟩, YA, ca, YB, cb⟩) := by
        have := one_meta (wr.alloc (.cells #[.int .i64 num, .int .i64 level, .int .i64 count, .slice YA n1 ca, .slice YB n2 cb] 95)) 62 ⟨⟨num, level, count, first, last⟩, YA, ca, YB, cb⟩
        simp only [World.size_alloc] at this
        rw [hn1, hn2, hwq] at this
        exact this
      have HONE := Lib.hid hone
      clear hy hn1 hn2 hwq hmq hownq hone
      go_wp2_with (first
        | (at_builtin
           rw [HWQ.out]
           refine wpList_app5 Tryz.underlying28 rowMr _ rfl (.tmp 28) (.tmp 40) rfl (w.heap.size + 3) (.slice Av k cv) k (ms.take k) rfl HOQ.out (wr.heap.size + 1) 1 ⟨⟨num, level, count, first, last⟩, YA, ca, YB, cb⟩ rfl HONE.out (by omega) (by have := HMQ.out.size; omega) ?_
           intro A' c' w' hc' hcm' hown' hg' hat'
           have hmg : Mod (fun g => (Value.slice Av k cv).ownBlock = some g) wq w' := Mod.of_grown hg' fun _ h => h
           have hmr : Mod (fun g => (Value.slice Av k cv).ownBlock = some g) wr w' := HMQ.out.non.trans hmg fun g hg => .inl hg
           have HMR := Lib.hid hmr
           have hfar : ∀ g, (Value.slice Av k cv).ownBlock = some g → w.heap.size + 3 ≤ g := fun g hg => (hrow g hg).1
           have hdst := HP.out.dst.mod hmr (fun h => by have := hfar _ h; omega)
           have HDST := Lib.hid hdst
           have d4' : w'.cell? ⟨w.heap.size + 1 + 1, 4, none⟩ = some (.slice Av k cv) := hdst.cell 4
           have fd4 := hdst.frozen 4
           have HO2 := Lib.hid hown'
           clear hmg hmr hdst hown' hg' hat')
        | fail)
      go_roundw
      case rel =>
        have hms : Mod (fun g => g = w.heap.size + 1 + 1) w' (w'.setCell ⟨w.heap.size + 1 + 1, 4, none⟩ (.slice A' (k + 1) c')) := (Mod.refl _ _).set1 4 _
        refine ⟨k + 1, c', A', by omega, by go_num, by have h1 := HMR.out.size; have h2 := hms.size; omega, ⟨?_, ?_, ?_, HDST.out.set_ 4 _⟩, ?_⟩
        · exact ((HP.out.mod.non.trans HMR.out fun g hg => .inr (by have := hfar g hg; omega)).trans hms fun g hg => .inr (by omega))
        · exact (HP.out.src.mod HMR.out (fun h => by have := hfar _ h; omega)).mod hms (by omega)
        · exact (HP.out.res.mod HMR.out (fun h => by have := hfar _ h; omega)).mod hms (by omega)
        · show World.ownsRow _ _ _ _ _ _ _
          rw [HSN.out]
          refine own_mod HO2.out hms fun b hb e => ?_
          have := (HO2.out.lt b hb).1
          omega
      case measure => simp [intOf]; omega
    · obtain rfl : k = n := by omega
      have hbd := HP.out.dst
      have u0 : wr.cell? ⟨w.heap.size + 1 + 1, 0, none⟩ = some (.int .i64 gen) := hbd.cell 0
      have u1 : wr.cell? ⟨w.heap.size + 1 + 1, 1, none⟩ = some (.int .i64 next) := hbd.cell 1
      have u2 : wr.cell? ⟨w.heap.size + 1 + 1, 2, none⟩ = some (.int .i64 log) := hbd.cell 2
      have u3 : wr.cell? ⟨w.heap.size + 1 + 1, 3, none⟩ = some (.int .i64 seq) := hbd.cell 3
      have u4 : wr.cell? ⟨w.heap.size + 1 + 1, 4, none⟩ = some (.slice Av k cv) := hbd.cell 4
      have hbr := HP.out.res
      have r0 : wr.cell? ⟨w.heap.size + 1, 0, none⟩ = some (.int .i64 0) := hbr.cell 0
      have r1 : wr.cell? ⟨w.heap.size + 1, 1, none⟩ = some (.int .i64 0) := hbr.cell 1
      have r2 : wr.cell? ⟨w.heap.size + 1, 2, none⟩ = some (.int .i64 0) := hbr.cell 2
      have r3 : wr.cell? ⟨w.heap.size + 1, 3, none⟩ = some (.int .i64 0) := hbr.cell 3
      have r4 : wr.cell? ⟨w.heap.size + 1, 4, none⟩ = some (.slice none 0 0) := hbr.cell 4
      have f0 := hbr.frozen 0
      have f1 := hbr.frozen 1
      have f2 := hbr.frozen 2
      have f3 := hbr.frozen 3
      have f4 := hbr.frozen 4
      have HBR := Lib.hid hbr
      clear hbd hbr
      go_wp2_with fail
      refine bodyPost_ret (results_cell_row rfl _ _ (w.heap.size + 1) 30 _ (0, 0) _ rfl (HBR.out.five _ _ _ _ _) Tryz.underlying30 rfl (by kernel_rfl)) rfl ?_
      have hm5 := set5b (g := w.heap.size + 1) HP.out.mod (by omega) (.int .i64 gen) (.int .i64 next) (.int .i64 log) (.int .i64 seq) (.slice Av k cv)
      have hm5r : Mod (fun g => g = w.heap.size + 1) wr (((((wr.setCell ⟨w.heap.size + 1, 0, none⟩ (.int .i64 gen)).setCell ⟨w.heap.size + 1, 1, none⟩ (.int .i64 next)).setCell ⟨w.heap.size + 1, 2, none⟩ (.int .i64 log)).setCell ⟨w.heap.size + 1, 3, none⟩ (.int .i64 seq)).setCell ⟨w.heap.size + 1, 4, none⟩ (.slice Av k cv)) := (((((Mod.refl _ _).set1 0 _).set1 1 _).set1 2 _).set1 3 _).set1 4 _
      have hrow2 := (Rd.of_own5 (own_mod HOWN.out hm5r (fun b hb e => by have := (HOWN.out.lt b hb).1; omega)))
      rw [List.take_of_length_le (by rw [HNN.out]; omega)] at hrow2
      obtain ⟨_, _, he, hc1, hc2⟩ := own_slice HOWN.out
      cases he
      have hmx : maxLen = 9223372036854775807 := rfl
      refine ⟨Av, cv, rfl, ⟨?_, ?_, by simp only; omega, fun m hm => ?_⟩, fun b hb => ?_, hm5⟩
      · simp only
        rw [HNN.out]
        exact hrow2
      · simp only
        rw [HNN.out]
        exact hc1
      · refine (HX.out.ok m ?_).mod0 hm5
        rw [← HXE.out]
        exact hm
      · have := own_base HOWN.out b hb
        omega

end Go.Proofs.YtdpjnpjmokncdaaGreatDoor

/- sawyerref10.SameMetas, sawyerref10.Same. -/
namespace Go.Proofs.YtdpjnpjmokncdaaGreatDoor
open Go.RowKit

set_option maxRecDepth 100000 in
set_option maxHeartbeats 8000000 in
theorem sameMetas_any (A B : Option Addr) (n c m d : Nat) (xs ys : List Mw) (w : World) (hx : Rd w A (n * 5) (xs.flatMap Mw.cells)) (hxl : xs.length = n) (hxo : ∀ x ∈ xs, MwOk w x)
    (hy : Rd w B (m * 5) (ys.flatMap Mw.cells)) (hyl : ys.length = m) (hyo : ∀ x ∈ ys, MwOk w x) (hn : n ≤ 9223372036854775807) :
    Calls Tryz.prog 47 #[.slice A n c, .slice B m d] w fun e w' => e = .returned (.bool (decide (xs.map (·.m) = ys.map (·.m)))) ∧ Mod Non w w' := by
  have HX := Lib.hid hx
  have HY := Lib.hid hy
  have HXL := Lib.hid hxl
  have HYL := Lib.hid hyl
  have HXO := Lib.hid hxo
  have HYO := Lib.hid hyo
  clear hx hy hxl hyl hxo hyo
  by_cases hnm : n = m
  · subst hnm
    obtain ⟨R, hR⟩ : ∃ R, decide (xs.map (·.m) = ys.map (·.m)) = R := ⟨_, rfl⟩
    have HR := Lib.hid hR
    rw [hR]
    clear hR
    go_enter Tryz.func47, Tryz.ntmps47
    go_wp2_with fail
    go_loopw [5] (fun i wr => ∃ k : Nat, k ≤ n ∧ i = .int .i64 k ∧ Hid (Mod Non w wr) ∧ Hid ((xs.map (·.m)).take k = (ys.map (·.m)).take k)) (fun i _ => n - (intOf i).toNat)
    case atStart => exact ⟨0, Nat.zero_le _, rfl, Mod.refl _ _, rfl⟩
    case round =>
      obtain ⟨k, hk, rfl, HM, HE⟩ := hrel
      by_cases hlt : k < n
      · obtain ⟨b, o, p, rfl, hp, g0, g1, g2, g3, g4⟩ := (HX.out.mod0 HM.out).mw HXL.out hlt
        obtain ⟨b', o', q, rfl, hq, k0, k1, k2, k3, k4⟩ := (HY.out.mod0 HM.out).mw HYL.out hlt
        have i1 : (0 : Int) ≤ (k : Int) := by omega
        have i2 : (k : Int) < (n : Int) := by omega
        have hpo := (HXO.out p (List.mem_of_getElem? hp)).mod0 HM.out
        have hqo := (HYO.out q (List.mem_of_getElem? hq)).mod0 HM.out
        have HP : Hid ((xs.map (·.m))[k]? = some p.m) := by { show _ = _; rw [List.getElem?_map, hp]; rfl }
        have HQ : Hid ((ys.map (·.m))[k]? = some q.m) := by { show _ = _; rw [List.getElem?_map, hq]; rfl }
        obtain ⟨⟨num, level, count, first, last⟩, YA, ca, YB, cb⟩ := p
        obtain ⟨⟨num', level', count', first', last'⟩, YA', ca', YB', cb'⟩ := q
        have ha := hpo.a
        have hb := hpo.b
        have ha' := hqo.a
        have hb' := hqo.b
        simp only at g0 g1 g2 g3 g4 k0 k1 k2 k3 k4 ha hb ha' hb' HP HQ
        have hne : (⟨num, level, count, first, last⟩ : Mt) ≠ ⟨num', level', count', first', last'⟩ → R = false := fun h => by
          rw [← HR.out]
          refine decide_eq_false fun e => h ?_
          have e2 := congrArg (fun l => l[k]?) e
          simp only [HP.out, HQ.out, Option.some.injEq] at e2
          exact e2
        have HNE := Lib.hid hne
        have hcv := fun W (hW : Rd W YA first.length (by8 first)) => conv_str (P := Tryz.prog) W 44 9 5 YA first.length ca first Tryz.underlying44 Tryz.underlying5 Tryz.underlying9 hW
        have hcv' := fun W (hW : Rd W YA' first'.length (by8 first')) => conv_str (P := Tryz.prog) W 44 9 5 YA' first'.length ca' first' Tryz.underlying44 Tryz.underlying5 Tryz.underlying9 hW
        have hcw := fun W (hW : Rd W YB last.length (by8 last)) => conv_str (P := Tryz.prog) W 44 9 5 YB last.length cb last Tryz.underlying44 Tryz.underlying5 Tryz.underlying9 hW
        have hcw' := fun W (hW : Rd W YB' last'.length (by8 last')) => conv_str (P := Tryz.prog) W 44 9 5 YB' last'.length cb' last' Tryz.underlying44 Tryz.underlying5 Tryz.underlying9 hW
        have f1 := fun j => hcv _ (ha.drewN j)
        have f2 := fun j => hcv' _ (ha'.drewN j)
        have f3 := fun j => hcw _ (hb.drewN j)
        have f4 := fun j => hcw' _ (hb'.drewN j)
        clear hcv hcv' hcw hcw' ha hb ha' hb' hpo hqo hp hq hne
        by_cases q0 : num = num'
        · subst q0
          by_cases q1 : level = level'
          · subst q1
            by_cases q2 : count = count'
            · subst q2
              by_cases q3 : first = first'
              · subst q3
                by_cases q4 : last = last'
                · subst q4
                  go_wp2_with fail
                  go_quiet (fail)
                  go_wp2_with fail
                  go_roundw
                  case rel =>
                    refine ⟨k + 1, by omega, by go_num, HM.out.drewN _, ?_⟩
                    show (xs.map (·.m)).take (k + 1) = (ys.map (·.m)).take (k + 1)
                    rw [take_snoc' _ k _ HP.out, take_snoc' _ k _ HQ.out, HE.out]
                  case measure => simp [intOf]; omega
                · have HRF := Lib.hid (HNE.out (fun e => q4 (by injection e)))
                  have hs2 : (last == last') = false := beq_eq_false_iff_ne.2 q4
                  clear q4
                  go_wp2_with fail
                  go_quiet (fail)
                  go_wp2_with fail
                  go_ret
                  exact ⟨by rw [HRF.out]; rfl, HM.out.drewN _⟩
              · have HRF := Lib.hid (HNE.out (fun e => q3 (by injection e)))
                have hs2 : (first == first') = false := beq_eq_false_iff_ne.2 q3
                clear q3
                go_wp2_with fail
                go_quiet (fail)
                go_wp2_with fail
                go_ret
                exact ⟨by rw [HRF.out]; rfl, HM.out.drewN _⟩
            · have HRF := Lib.hid (HNE.out (fun e => q2 (by injection e)))
              have hs2 : (count == count') = false := beq_eq_false_iff_ne.2 q2
              have hs3 : decide (count = count') = false := decide_eq_false q2
              have hs4 : (count != count') = true := by simp [bne, hs2]
              have hs5 : decide (¬ count = count') = true := decide_eq_true q2
              clear q2
              go_wp2_with fail
              go_quiet (fail)
              go_wp2_with fail
              go_ret
              exact ⟨by rw [HRF.out]; rfl, HM.out.drewN _⟩
          · have HRF := Lib.hid (HNE.out (fun e => q1 (by injection e)))
            have hs2 : (level == level') = false := beq_eq_false_iff_ne.2 q1
            have hs3 : decide (level = level') = false := decide_eq_false q1
            have hs4 : (level != level') = true := by simp [bne, hs2]
            have hs5 : decide (¬ level = level') = true := decide_eq_true q1
            clear q1
            go_wp2_with fail
            go_quiet (fail)
            go_wp2_with fail
            go_ret
            exact ⟨by rw [HRF.out]; rfl, HM.out.drewN _⟩
        · have HRF := Lib.hid (HNE.out (fun e => q0 (by injection e)))
          have hs2 : (num == num') = false := beq_eq_false_iff_ne.2 q0
          have hs3 : decide (num = num') = false := decide_eq_false q0
          have hs4 : (num != num') = true := by simp [bne, hs2]
          have hs5 : decide (¬ num = num') = true := decide_eq_true q0
          clear q0
          go_wp2_with fail
          go_quiet (fail)
          go_wp2_with fail
          go_ret
          exact ⟨by rw [HRF.out]; rfl, HM.out.drewN _⟩
      · obtain rfl : k = n := by omega
        go_wp2_with fail
        go_ret
        have e0 : R = true := by
          rw [← HR.out]
          refine decide_eq_true ?_
          have e := HE.out
          rwa [List.take_of_length_le (by simp [HXL.out]), List.take_of_length_le (by simp [HYL.out])] at e
        exact ⟨by rw [e0]; rfl, HM.out⟩
  · have h1 : ((n : Int) == (m : Int)) = false := by simp; omega
    have h2 : ¬ ((n : Int) = (m : Int)) := by omega
    go_enter Tryz.func47, Tryz.ntmps47
    go_wp2_with fail
    go_ret
    have e0 : decide (xs.map (·.m) = ys.map (·.m)) = false := decide_eq_false fun e => by
      have := congrArg List.length e
      rw [List.length_map, List.length_map, HXL.out, HYL.out] at this
      omega
    exact ⟨by rw [e0]; rfl, Mod.refl _ _⟩

end Go.Proofs.YtdpjnpjmokncdaaGreatDoor

/- sawyerref03.Less; sawyerref10's in, right, ahead. -/
namespace Go.Proofs.YtdpjnpjmokncdaaGreatDoor
open Go.RowKit

theorem lessB_nil (a : List UInt8) : lessB a [] = false := by unfold lessB; simp
theorem lessB_nil2 (y : UInt8) (b : List UInt8) : lessB [] (y :: b) = true := by unfold lessB; simp
theorem lessB_cons (x y : UInt8) (a b : List UInt8) : lessB (x :: a) (y :: b) = if x = y then lessB a b else decide (x < y) := by
  unfold lessB
  split
  · rename_i h
    subst h
    simp
  · rename_i h
    simp [List.cons_lt_cons_iff, h]
theorem u8_eq (x y : UInt8) : ((x.toNat : Int) == (y.toNat : Int)) = decide (x = y) := by
  by_cases h : x = y
  · subst h; simp
  · have : x.toNat ≠ y.toNat := fun e => h (UInt8.toNat_inj.1 e)
    rw [decide_eq_false h]
    simp; omega
theorem u8_lt (x y : UInt8) : decide ((x.toNat : Int) < (y.toNat : Int)) = decide (x < y) := by
  refine decide_eq_decide.2 ?_
  rw [UInt8.lt_iff_toNat_lt]
  omega

set_option maxRecDepth 100000 in
set_option maxHeartbeats 1000000 in
theorem lessR_any (A B : Option Addr) (n c m d : Nat) (l k : List UInt8) (w : World) (h : Rd w A n (by8 l)) (g : Rd w B m (by8 k)) (hn : n ≤ 9223372036854775807) (hm : m ≤ 9223372036854775807) :
    Calls Tryz.prog 148 #[.slice A n c, .slice B m d] w fun e w' => e = .returned (.bool (lessB l k)) ∧ Mod Non w w' := by
  have hl : l.length = n := by simpa using h.1
  have hk : k.length = m := by simpa using g.1
  have HLN := Lib.hid hl
  have HKN := Lib.hid hk
  have H := Lib.hid h
  have G := Lib.hid g
  obtain ⟨R, hR⟩ : ∃ R, lessB l k = R := ⟨_, rfl⟩
  have HR := Lib.hid hR
  rw [hR]
  clear hl hk h g hR
  go_enter Tryz.func148, Tryz.ntmps148
  go_wp2_with fail
  go_loopw [5] (fun i wr => ∃ j : Nat, j ≤ n ∧ j ≤ m ∧ i = .int .i64 j ∧ Hid (Mod Non w wr) ∧ Hid (lessB (l.drop j) (k.drop j) = R)) (fun i _ => n - (intOf i).toNat)
  case atStart => exact ⟨0, Nat.zero_le _, Nat.zero_le _, rfl, Mod.refl _ _, HR.out⟩
  case round =>
    obtain ⟨j, hjn, hjm, rfl, HM, HE⟩ := hrel
    by_cases hlt : j < n ∧ j < m
    · obtain ⟨hlt, hlt2⟩ := hlt
      obtain ⟨b, o, rfl, u, hu, hc⟩ := (H.out.mod0 HM.out).at_ hlt
      obtain ⟨b', o', rfl, u', hu', hc'⟩ := (G.out.mod0 HM.out).at_ hlt2
      rw [by8_get] at hu hu'
      obtain ⟨x, hx, rfl⟩ := Option.map_eq_some_iff.1 hu
      obtain ⟨y, hy, rfl⟩ := Option.map_eq_some_iff.1 hu'
      have hdl : l.drop j = x :: l.drop (j + 1) := by
        obtain ⟨h1, h2⟩ := List.getElem?_eq_some_iff.1 hx
        rw [List.drop_eq_getElem_cons h1, h2]
      have hdk : k.drop j = y :: k.drop (j + 1) := by
        obtain ⟨h1, h2⟩ := List.getElem?_eq_some_iff.1 hy
        rw [List.drop_eq_getElem_cons h1, h2]
      have hst := HE.out
      rw [hdl, hdk, lessB_cons] at hst
      have HST := Lib.hid hst
      have i1 : (0 : Int) ≤ (j : Int) := by omega
      have i2 : (j : Int) < (n : Int) := by omega
      have i3 : (j : Int) < (m : Int) := by omega
      have i4 : decide ((j : Int) < (n : Int)) = true := decide_eq_true i2
      have i5 : decide ((j : Int) < (m : Int)) = true := decide_eq_true i3
      unfold b8 at hc hc'
      clear hu hu' hx hy hdl hdk hst
      by_cases hxy : x = y
      · subst hxy
        have HS2 : Hid (lessB (l.drop (j + 1)) (k.drop (j + 1)) = R) := by { have := HST.out; rwa [if_pos rfl] at this }
        go_wp2_with fail
        go_quiet (fail)
        go_wp2_with fail
        go_roundw
        case rel => exact ⟨j + 1, by omega, by omega, by go_num, HM.out.drewN _, HS2.out⟩
        case measure => simp [intOf]; omega
      · have HS2 : Hid (decide (x < y) = R) := by { have := HST.out; rwa [if_neg hxy] at this }
        have e1 := u8_eq x y
        rw [decide_eq_false hxy] at e1
        have HLT := Lib.hid (u8_lt x y)
        have e2 : ¬ ((x.toNat : Int) = (y.toNat : Int)) := by simpa using e1
        have e3 : decide ((x.toNat : Int) = (y.toNat : Int)) = false := decide_eq_false e2
        clear hxy HST
        go_wp2_with fail
        go_quiet (fail)
        go_wp2_with fail
        go_quiet (fail)
        go_wp2_with fail
        go_ret
        refine ⟨?_, (HM.out.drewN _).drewN _⟩
        rw [← HS2.out, ← HLT.out]
        first | rfl | simp
    · have hor : j = n ∨ (j < n ∧ j = m) := by omega
      clear hlt
      rcases hor with rfl | ⟨hj, rfl⟩
      · have HE2 : Hid (decide (j < m) = R) := by
          show _ = R
          rw [← HE.out, List.drop_of_length_le (by rw [HLN.out]; exact Nat.le_refl _)]
          by_cases hjm2 : j < m
          · have hkx := List.getElem?_eq_getElem (l := k) (i := j) (by rw [HKN.out]; exact hjm2)
            obtain ⟨h1, h2⟩ := List.getElem?_eq_some_iff.1 hkx
            rw [List.drop_eq_getElem_cons h1, lessB_nil2]
            exact decide_eq_true (by omega)
          · rw [List.drop_of_length_le (by rw [HKN.out]; omega), lessB_nil]
            exact decide_eq_false (by omega)
        go_wp2_with fail
        go_ret
        exact ⟨by rw [← HE2.out]; rfl, HM.out⟩
      · have HE2 : Hid (R = false) := by
          show R = false
          rw [← HE.out, List.drop_of_length_le (l := k) (by rw [HKN.out]; exact Nat.le_refl _), lessB_nil]
        have i2 : (j : Int) < (n : Int) := by omega
        go_wp2_with fail
        go_ret
        refine ⟨?_, HM.out⟩
        rw [HE2.out]
        show Ending.returned (Value.bool (decide (n < j))) = _
        rw [decide_eq_false (by omega)]

set_option maxRecDepth 100000 in
set_option maxHeartbeats 400000 in
theorem inR_any (x : Int) (w : World) : Calls Tryz.prog 145 #[.int .i64 x] w fun e w' => e = .returned (.bool (inN x)) ∧ w = w' := by
  by_cases h0 : 0 ≤ x
  · by_cases h1 : x ≤ 1099511627776
    · have hi : inN x = true := inN_iff.2 ⟨h0, h1⟩
      rw [hi]
      have d0 : decide (0 ≤ x) = true := decide_eq_true h0
      have d1 : decide (x ≤ 1099511627776) = true := decide_eq_true h1
      clear hi
      go_enter Tryz.func145, Tryz.ntmps145
      go_wp2_with fail
      go_ret
      exact ⟨rfl, rfl⟩
    · have hi : inN x = false := by unfold inN; exact decide_eq_false (fun h => h1 h.2)
      rw [hi]
      have d0 : decide (0 ≤ x) = true := decide_eq_true h0
      have d1 : decide (x ≤ 1099511627776) = false := decide_eq_false h1
      clear hi
      go_enter Tryz.func145, Tryz.ntmps145
      go_wp2_with fail
      go_ret
      exact ⟨rfl, rfl⟩
  · have hi : inN x = false := by unfold inN; exact decide_eq_false (fun h => h0 h.1)
    rw [hi]
    have d0 : decide (0 ≤ x) = false := decide_eq_false h0
    clear hi
    go_enter Tryz.func145, Tryz.ntmps145
    go_wp2_with fail
    go_ret
    exact ⟨rfl, rfl⟩

end Go.Proofs.YtdpjnpjmokncdaaGreatDoor

/- sawyerref10.right, sawyerref10.ahead. -/
namespace Go.Proofs.YtdpjnpjmokncdaaGreatDoor
open Go.RowKit

set_option maxRecDepth 100000 in
set_option maxHeartbeats 4000000 in
theorem rightMR_any (x : Mw) (w : World) (h : MwOk w x) :
    Calls Tryz.prog 146 #[x.val] w fun e w' => e = .returned (.bool (mtRight x.m)) ∧ Mod Non w w' := by
  obtain ⟨⟨num, level, count, first, last⟩, A, ca, B, cb⟩ := x
  obtain ⟨ha, hb, ⟨ha1, ha2⟩, ⟨hb1, hb2⟩⟩ := h
  simp only at ha hb ha1 ha2 hb1 hb2
  unfold Mw.val
  simp only
  obtain ⟨n1, hn1⟩ : ∃ n1, first.length = n1 := ⟨_, rfl⟩
  obtain ⟨n2, hn2⟩ : ∃ n2, last.length = n2 := ⟨_, rfl⟩
  rw [hn1] at ha ha1
  rw [hn2] at hb hb1
  obtain ⟨R, hR⟩ : ∃ R, mtRight ⟨num, level, count, first, last⟩ = R := ⟨_, rfl⟩
  rw [hR, hn1, hn2]
  have HR := Lib.hid hR
  have HN1 := Lib.hid hn1
  have HN2 := Lib.hid hn2
  obtain ⟨b1, hb1e⟩ : ∃ b, inN num = b := ⟨_, rfl⟩
  obtain ⟨b4, hb4e⟩ : ∃ b, lessB last first = b := ⟨_, rfl⟩
  have HB1 := Lib.hid hb1e
  have HB4 := Lib.hid hb4e
  have hbox : Blk (w.alloc (.cells #[.int .i64 num, .int .i64 level, .int .i64 count, .slice A n1 ca, .slice B n2 cb] 62)) w.heap.size 62 #[.int .i64 num, .int .i64 level, .int .i64 count, .slice A n1 ca, .slice B n2 cb] := Blk.new _ _ _
  have hMA : Mod Non w (w.alloc (.cells #[.int .i64 num, .int .i64 level, .int .i64 count, .slice A n1 ca, .slice B n2 cb] 62)) := (Mod.refl Non w).alloc _
  have hless : ∀ W, Mod Non w W → Calls Tryz.prog 148 #[.slice B n2 cb, .slice A n1 ca] W fun e w' => e = .returned (.bool b4) ∧ Mod Non W w' := fun W hW => by
    have := lessR_any B A n2 cb n1 ca last first W (hb.mod0 hW) (ha.mod0 hW) (by omega) (by omega)
    rw [hb4e] at this
    exact this
  have x0 := hbox.cell 0
  have x1 := hbox.cell 1
  have x2 := hbox.cell 2
  have x3 := hbox.cell 3
  have x4 := hbox.cell 4
  simp only [List.getElem?_toArray, List.getElem?_cons_zero, List.getElem?_cons_succ] at x0 x1 x2 x3 x4
  have HMA := Lib.hid hMA
  have HLE := Lib.hid hless
  have hval : mtRight ⟨num, level, count, first, last⟩ = true ↔ (b1 = true ∧ (0 ≤ level ∧ level ≤ 3) ∧ (1 ≤ count ∧ count ≤ 64) ∧ (1 ≤ n1 ∧ n1 ≤ 64) ∧ (1 ≤ n2 ∧ n2 ≤ 64) ∧ b4 = false) := by
    unfold mtRight
    simp only [Bool.and_eq_true, decide_eq_true_eq, isKeyB_iff, Bool.not_eq_true']
    rw [hb1e, hb4e, hn1, hn2]
  have HVAL := Lib.hid hval
  clear hR hn1 hn2 hb1e hb4e hMA hbox hless hval ha hb
  cases b1 with
  | false =>
    go_enter Tryz.func146, Tryz.ntmps146
    go_wp2_with (first
      | (go_at_call 145; refine (inR_any num _).mono ?_; rw [HB1.out]; rintro e w1 ⟨rfl, rfl⟩)
      | fail)
    go_ret
    exact ⟨by rw [← HR.out, show mtRight ⟨num, level, count, first, last⟩ = false from Bool.eq_false_iff.2 fun h => (by have h := HVAL.out.1 h; first | omega | simp at h)]; rfl, HMA.out⟩
  | true =>
    rcases Decidable.em (¬ (0 ≤ level)) with p0 | p0
    · have d0 : decide ((0 : Int) ≤ level) = false := decide_eq_false (by omega)
      go_enter Tryz.func146, Tryz.ntmps146
      go_wp2_with (first
        | (go_at_call 145; refine (inR_any num _).mono ?_; rw [HB1.out]; rintro e w1 ⟨rfl, rfl⟩)
        | fail)
      go_ret
      exact ⟨by rw [← HR.out, show mtRight ⟨num, level, count, first, last⟩ = false from Bool.eq_false_iff.2 fun h => (by have h := HVAL.out.1 h; first | omega | simp at h)]; rfl, HMA.out⟩
    replace p0 := Decidable.not_not.1 p0
    have d0 : decide ((0 : Int) ≤ level) = true := decide_eq_true (by omega)
    rcases Decidable.em (¬ (level ≤ 3)) with p1 | p1
    · have d1 : decide (level ≤ (3 : Int)) = false := decide_eq_false (by omega)
      go_enter Tryz.func146, Tryz.ntmps146
      go_wp2_with (first
        | (go_at_call 145; refine (inR_any num _).mono ?_; rw [HB1.out]; rintro e w1 ⟨rfl, rfl⟩)
        | fail)
      go_ret
      exact ⟨by rw [← HR.out, show mtRight ⟨num, level, count, first, last⟩ = false from Bool.eq_false_iff.2 fun h => (by have h := HVAL.out.1 h; first | omega | simp at h)]; rfl, HMA.out⟩
    replace p1 := Decidable.not_not.1 p1
    have d1 : decide (level ≤ (3 : Int)) = true := decide_eq_true (by omega)
    rcases Decidable.em (¬ (1 ≤ count)) with p2 | p2
    · have d2 : decide ((1 : Int) ≤ count) = false := decide_eq_false (by omega)
      go_enter Tryz.func146, Tryz.ntmps146
      go_wp2_with (first
        | (go_at_call 145; refine (inR_any num _).mono ?_; rw [HB1.out]; rintro e w1 ⟨rfl, rfl⟩)
        | fail)
      go_ret
      exact ⟨by rw [← HR.out, show mtRight ⟨num, level, count, first, last⟩ = false from Bool.eq_false_iff.2 fun h => (by have h := HVAL.out.1 h; first | omega | simp at h)]; rfl, HMA.out⟩
    replace p2 := Decidable.not_not.1 p2
    have d2 : decide ((1 : Int) ≤ count) = true := decide_eq_true (by omega)
    rcases Decidable.em (¬ (count ≤ 64)) with p3 | p3
    · have d3 : decide (count ≤ (64 : Int)) = false := decide_eq_false (by omega)
      go_enter Tryz.func146, Tryz.ntmps146
      go_wp2_with (first
        | (go_at_call 145; refine (inR_any num _).mono ?_; rw [HB1.out]; rintro e w1 ⟨rfl, rfl⟩)
        | fail)
      go_ret
      exact ⟨by rw [← HR.out, show mtRight ⟨num, level, count, first, last⟩ = false from Bool.eq_false_iff.2 fun h => (by have h := HVAL.out.1 h; first | omega | simp at h)]; rfl, HMA.out⟩
    replace p3 := Decidable.not_not.1 p3
    have d3 : decide (count ≤ (64 : Int)) = true := decide_eq_true (by omega)
    rcases Decidable.em (¬ (1 ≤ n1)) with p4 | p4
    · have d4 : decide ((1 : Int) ≤ (n1 : Int)) = false := decide_eq_false (by omega)
      go_enter Tryz.func146, Tryz.ntmps146
      go_wp2_with (first
        | (go_at_call 145; refine (inR_any num _).mono ?_; rw [HB1.out]; rintro e w1 ⟨rfl, rfl⟩)
        | fail)
      go_ret
      exact ⟨by rw [← HR.out, show mtRight ⟨num, level, count, first, last⟩ = false from Bool.eq_false_iff.2 fun h => (by have h := HVAL.out.1 h; first | omega | simp at h)]; rfl, HMA.out⟩
    replace p4 := Decidable.not_not.1 p4
    have d4 : decide ((1 : Int) ≤ (n1 : Int)) = true := decide_eq_true (by omega)
    rcases Decidable.em (¬ (n1 ≤ 64)) with p5 | p5
    · have d5 : decide ((n1 : Int) ≤ (64 : Int)) = false := decide_eq_false (by omega)
      go_enter Tryz.func146, Tryz.ntmps146
      go_wp2_with (first
        | (go_at_call 145; refine (inR_any num _).mono ?_; rw [HB1.out]; rintro e w1 ⟨rfl, rfl⟩)
        | fail)
      go_ret
      exact ⟨by rw [← HR.out, show mtRight ⟨num, level, count, first, last⟩ = false from Bool.eq_false_iff.2 fun h => (by have h := HVAL.out.1 h; first | omega | simp at h)]; rfl, HMA.out⟩
    replace p5 := Decidable.not_not.1 p5
    have d5 : decide ((n1 : Int) ≤ (64 : Int)) = true := decide_eq_true (by omega)
    rcases Decidable.em (¬ (1 ≤ n2)) with p6 | p6
    · have d6 : decide ((1 : Int) ≤ (n2 : Int)) = false := decide_eq_false (by omega)
      go_enter Tryz.func146, Tryz.ntmps146
      go_wp2_with (first
        | (go_at_call 145; refine (inR_any num _).mono ?_; rw [HB1.out]; rintro e w1 ⟨rfl, rfl⟩)
        | fail)
      go_ret
      exact ⟨by rw [← HR.out, show mtRight ⟨num, level, count, first, last⟩ = false from Bool.eq_false_iff.2 fun h => (by have h := HVAL.out.1 h; first | omega | simp at h)]; rfl, HMA.out⟩
    replace p6 := Decidable.not_not.1 p6
    have d6 : decide ((1 : Int) ≤ (n2 : Int)) = true := decide_eq_true (by omega)
    rcases Decidable.em (¬ (n2 ≤ 64)) with p7 | p7
    · have d7 : decide ((n2 : Int) ≤ (64 : Int)) = false := decide_eq_false (by omega)
      go_enter Tryz.func146, Tryz.ntmps146
      go_wp2_with (first
        | (go_at_call 145; refine (inR_any num _).mono ?_; rw [HB1.out]; rintro e w1 ⟨rfl, rfl⟩)
        | fail)
      go_ret
      exact ⟨by rw [← HR.out, show mtRight ⟨num, level, count, first, last⟩ = false from Bool.eq_false_iff.2 fun h => (by have h := HVAL.out.1 h; first | omega | simp at h)]; rfl, HMA.out⟩
    replace p7 := Decidable.not_not.1 p7
    have d7 : decide ((n2 : Int) ≤ (64 : Int)) = true := decide_eq_true (by omega)
    cases b4 with
    | false =>
      go_enter Tryz.func146, Tryz.ntmps146
      go_wp2_with (first
        | (go_at_call 145; refine (inR_any num _).mono ?_; rw [HB1.out]; rintro e w1 ⟨rfl, rfl⟩)
        | (go_at_call 148; refine (HLE.out _ HMA.out).mono ?_; rintro e w2 ⟨rfl, hm2⟩; have HM2 := Lib.hid (HMA.out.trans0 hm2); clear hm2)
        | fail)
      go_ret
      exact ⟨by rw [← HR.out, HVAL.out.2 (by simp only [true_and, and_true]; exact ⟨⟨p0, p1⟩, ⟨p2, p3⟩, ⟨p4, p5⟩, ⟨p6, p7⟩⟩)]; rfl, HM2.out⟩
    | true =>
      go_enter Tryz.func146, Tryz.ntmps146
      go_wp2_with (first
        | (go_at_call 145; refine (inR_any num _).mono ?_; rw [HB1.out]; rintro e w1 ⟨rfl, rfl⟩)
        | (go_at_call 148; refine (HLE.out _ HMA.out).mono ?_; rintro e w2 ⟨rfl, hm2⟩; have HM2 := Lib.hid (HMA.out.trans0 hm2); clear hm2)
        | fail)
      go_ret
      exact ⟨by rw [← HR.out, show mtRight ⟨num, level, count, first, last⟩ = false from Bool.eq_false_iff.2 fun h => (by have h := HVAL.out.1 h; simp at h)]; rfl, HM2.out⟩

set_option maxRecDepth 100000 in
set_option maxHeartbeats 2000000 in
theorem aheadMR_any (x y : Mw) (w : World) (h : MwOk w x) (g : MwOk w y) (h0 : 0 ≤ x.m.level) :
    Calls Tryz.prog 147 #[x.val, y.val] w fun e w' => e = .returned (.bool (aheadB x.m y.m)) ∧ Mod Non w w' := by
  obtain ⟨⟨num, level, count, first, last⟩, A, ca, B, cb⟩ := x
  obtain ⟨⟨num', level', count', first', last'⟩, A', ca', B', cb'⟩ := y
  have ha := h.a
  have ha' := g.a
  have hca := h.a1
  have hca' := g.a1
  simp only at ha ha' hca hca' h0
  unfold Mw.val
  simp only
  obtain ⟨n1, hn1⟩ : ∃ n1, first.length = n1 := ⟨_, rfl⟩
  obtain ⟨n2, hn2⟩ : ∃ n2, last.length = n2 := ⟨_, rfl⟩
  obtain ⟨m1, hm1⟩ : ∃ m1, first'.length = m1 := ⟨_, rfl⟩
  obtain ⟨m2, hm2⟩ : ∃ m2, last'.length = m2 := ⟨_, rfl⟩
  rw [hn1] at ha hca
  rw [hm1] at ha' hca'
  obtain ⟨R, hR⟩ : ∃ R, aheadB ⟨num, level, count, first, last⟩ ⟨num', level', count', first', last'⟩ = R := ⟨_, rfl⟩
  rw [hR, hn1, hn2, hm1, hm2]
  have hless : ∀ W, Mod Non w W → Calls Tryz.prog 148 #[.slice A n1 ca, .slice A' m1 ca'] W fun e w' => e = .returned (.bool (lessB first first')) ∧ Mod Non W w' := fun W hW =>
    lessR_any A A' n1 ca m1 ca' first first' W (ha.mod0 hW) (ha'.mod0 hW) (by omega) (by omega)
  have hb1 : Blk ((w.alloc (.cells #[.int .i64 num, .int .i64 level, .int .i64 count, .slice A n1 ca, .slice B n2 cb] 62)).alloc (.cells #[.int .i64 num', .int .i64 level', .int .i64 count', .slice A' m1 ca', .slice B' m2 cb'] 62)) w.heap.size 62 #[.int .i64 num, .int .i64 level, .int .i64 count, .slice A n1 ca, .slice B n2 cb] := (Blk.new _ _ _).alloc _
  have hb2 : Blk ((w.alloc (.cells #[.int .i64 num, .int .i64 level, .int .i64 count, .slice A n1 ca, .slice B n2 cb] 62)).alloc (.cells #[.int .i64 num', .int .i64 level', .int .i64 count', .slice A' m1 ca', .slice B' m2 cb'] 62)) (w.heap.size + 1) 62 #[.int .i64 num', .int .i64 level', .int .i64 count', .slice A' m1 ca', .slice B' m2 cb'] := by
    have := Blk.new (w.alloc (.cells #[.int .i64 num, .int .i64 level, .int .i64 count, .slice A n1 ca, .slice B n2 cb] 62)) 62 #[.int .i64 num', .int .i64 level', .int .i64 count', .slice A' m1 ca', .slice B' m2 cb']
    rwa [World.size_alloc] at this
  have HMA := Lib.hid (((Mod.refl Non w).alloc (.cells #[.int .i64 num, .int .i64 level, .int .i64 count, .slice A n1 ca, .slice B n2 cb] 62)).alloc (.cells #[.int .i64 num', .int .i64 level', .int .i64 count', .slice A' m1 ca', .slice B' m2 cb'] 62))
  have x0 := hb1.cell 0
  have x1 := hb1.cell 1
  have x3 := hb1.cell 3
  have y0 := hb2.cell 0
  have y1 := hb2.cell 1
  have y3 := hb2.cell 3
  simp only [List.getElem?_toArray, List.getElem?_cons_zero, List.getElem?_cons_succ] at x0 x1 x3 y0 y1 y3
  have HLE := Lib.hid hless
  have HR := Lib.hid hR
  clear hR hn1 hn2 hm1 hm2 hless hb1 hb2 h g ha ha' hca hca'
  by_cases hl : level = level'
  · subst hl
    by_cases hz : level = 0
    · subst hz
      have HRE : Hid (decide (num' < num) = R) := by { show _ = R; rw [← HR.out]; unfold aheadB; simp }
      go_enter Tryz.func147, Tryz.ntmps147
      go_wp2_with fail
      go_ret
      exact ⟨by rw [← HRE.out]; rfl, HMA.out⟩
    · have HRE : Hid (lessB first first' = R) := by { show _ = R; rw [← HR.out]; unfold aheadB; simp only; rw [if_neg (by omega), if_neg (by omega), if_pos (by omega)] }
      have d0 : (level == 0) = false := by simpa using hz
      have d1 : decide (level = 0) = false := decide_eq_false hz
      go_enter Tryz.func147, Tryz.ntmps147
      go_wp2_with (first
        | (go_at_call 148; refine (HLE.out _ HMA.out).mono ?_; rw [HRE.out]; rintro e w2 ⟨rfl, hm2⟩; have HM2 := Lib.hid (HMA.out.trans0 hm2); clear hm2)
        | fail)
      go_ret
      exact ⟨rfl, HM2.out⟩
  · have HRE : Hid (decide (level < level') = R) := by
      show _ = R
      rw [← HR.out]
      unfold aheadB
      simp only
      by_cases h1 : level < level'
      · rw [if_pos h1]; exact decide_eq_true h1
      · rw [if_neg h1, if_pos (by omega)]; exact decide_eq_false h1
    have d0 : (level == level') = false := beq_eq_false_iff_ne.2 hl
    have d1 : decide (level = level') = false := decide_eq_false hl
    go_enter Tryz.func147, Tryz.ntmps147
    go_wp2_with fail
    go_ret
    exact ⟨by rw [← HRE.out]; rfl, HMA.out⟩

end Go.Proofs.YtdpjnpjmokncdaaGreatDoor
