/- edit.Decode: what is kept between two rounds. -/
import Derived.Test.YtdpjnpjmokncdaaGreatDoorB31
import Derived.Laws.ResultCell
import Derived.Laws.Rows
import Derived.Deep.RegionHeld3
import Derived.Deep.RegionLaw
namespace Go.Proofs.YtdpjnpjmokncdaaGreatDoor
open Go.RowKit

/-- what Decode answers. -/
def DePost (l : List UInt8) (w : World) (e : Ending) (w' : World) : Prop := match decV l with
  | some v => ∃ x : Vw, x.v = v ∧ e = .returned (.tuple #[x.val, .int .i64 0]) ∧ VwOk w' x ∧ (∀ (S : Nat → Prop) w'', (∀ i, S i → i < w.heap.size) → Mod S w' w'' → VwOk w'' x) ∧ Mod Non w w'
  | none => e = .returned (.tuple #[.agg #[.int .i64 0, .int .i64 0, .int .i64 0, .int .i64 0, .slice none 0 0], .int .i64 2]) ∧ Mod Non w w'

/-- what the loop may turn. -/
def DeF (vb : Nat) (Av : Option Addr) (k : Nat) : Prop := k ≤ vb ∨ blkOf Av = some k

theorem own_blk (A : Option Addr) (n c : Nat) : (Value.slice A n c).ownBlock = blkOf A := by cases A <;> rfl

/-- between two rounds. -/
structure DeM (w0 : World) (rb vb : Nat) (g1 g2 g3 g4 : Int) (T : List Mt × Rs) (k : Nat) (nn : Int) (wr : World) (Av : Option Addr) (cv : Nat) (ms : List Mw) (s : Rs) (A : Option Addr) (n c : Nat) : Prop where
  mod : Mod (fun k => k = rb ∨ k = vb) w0 wr
  vbk : Blk wr vb 34 #[.int .i64 g1, .int .i64 g2, .int .i64 g3, .int .i64 g4, .slice Av k cv]
  rs : RsAt wr rb s A n c
  own : wr.ownsRow w0.heap.size 95 5 (.slice Av k cv) k (ms.flatMap Mw.cells)
  ln : ms.length = k
  ok : ∀ m ∈ ms, MwO wr (DeF vb Av) m
  tabs : tabsP (4097 - k) nn s (ms.map (·.m)) = T


theorem de_next {w0 : World} {rb vb : Nat} {g1 g2 g3 g4 : Int} {T : List Mt × Rs} {k : Nat} {nn nn' : Int} {wr : World} {Av : Option Addr} {cv : Nat} {ms : List Mw} {s t5 : Rs} {A : Option Addr} {n c : Nat}
    {u3 u4 u5 qw : World} {x : Mw} {B5 : Option Addr} {m5 d5 : Nat} {o : Obj} {qA : Option Addr} {qc : Nat}
    (HP : DeM w0 rb vb g1 g2 g3 g4 T k nn wr Av cv ms s A n c) (hrv : rb < vb) (hv0 : vb < w0.heap.size)
    (Y3 : Mod (fun i => i = rb) wr u3) (Y4 : Mod (fun i => i = rb) wr u4) (_Y34 : u3.heap.size ≤ u4.heap.size) (Y45 : Mod (fun i => i = rb) u4 u5)
    (z4 : Rd u4 x.A x.m.first.length (by8 x.m.first) ∧ x.m.first.length ≤ x.ca ∧ x.ca ≤ 9223372036854775807 ∧ ∀ b, blkOf x.A = some b → u3.heap.size ≤ b)
    (z5 : Rd u5 x.B x.m.last.length (by8 x.m.last) ∧ x.m.last.length ≤ x.cb ∧ x.cb ≤ 9223372036854775807 ∧ ∀ b, blkOf x.B = some b → u4.heap.size ≤ b)
    (X5 : RsAt u5 rb t5 B5 m5 d5) (YF : 0 < m5 → ∀ b, blkOf B5 = some b → u4.heap.size ≤ b)
    (qg : (u5.alloc o).grownBy qw (Value.slice Av k cv).ownBlock)
    (qat : blkOf qA = (Value.slice Av k cv).ownBlock ∨ blkOf qA = some (u5.alloc o).heap.size)
    (qown : qw.ownsRow w0.heap.size 95 5 (.slice qA (k + 1) qc) (k + 1) ((ms ++ [x]).flatMap Mw.cells))
    (htab : tabsP (4097 - (k + 1)) nn' t5 (ms.map (·.m) ++ [x.m]) = T) :
    DeM w0 rb vb g1 g2 g3 g4 T (k + 1) nn' (qw.setCell ⟨vb, 4, none⟩ (.slice qA (k + 1) qc)) qA qc (ms ++ [x]) t5 B5 m5 d5 := by
  rw [own_blk] at qg qat
  rw [World.size_alloc] at qat
  have hlv : ∀ b, blkOf Av = some b → w0.heap.size ≤ b ∧ b < wr.heap.size := fun b hb => HP.own.lt b (by rw [own_blk]; exact hb)
  have hlq : ∀ b, blkOf qA = some b → w0.heap.size ≤ b ∧ b < qw.heap.size := fun b hb => qown.lt b (by rw [own_blk]; exact hb)
  have s0 := HP.mod.size
  have s3 := Y3.size
  have s4 := Y4.size
  have s5 := Y45.size
  -- from u5 to the end
  have m5q : Mod (fun i => blkOf Av = some i) u5 qw := ((Mod.refl _ u5).alloc o).trans (Mod.of_grown (S := fun i => blkOf Av = some i) qg fun i h => h) fun i h => .inl h
  have m5f : Mod (fun i => i = vb ∨ blkOf Av = some i) u5 (qw.setCell ⟨vb, 4, none⟩ (.slice qA (k + 1) qc)) :=
    (m5q.mono fun i h => .inr h).setCell (p := ⟨vb, 4, none⟩) (.inl (.inl rfl)) _
  have mrf0 : Mod (fun i => i = rb ∨ i = vb ∨ blkOf Av = some i) wr (qw.setCell ⟨vb, 4, none⟩ (.slice qA (k + 1) qc)) :=
    ((Y4.trans Y45 fun i h => .inl h).mono fun i h => .inl h).trans m5f fun i h => .inl (h.elim (fun h => .inr (.inl h)) fun h => .inr (.inr h))
  have mrf : Mod (DeF vb Av) wr (qw.setCell ⟨vb, 4, none⟩ (.slice qA (k + 1) qc)) := mrf0.mono fun i h => by
    rcases h with h | h | h
    · exact .inl (by omega)
    · exact .inl (by omega)
    · exact .inr h
  have m4f0 : Mod (fun i => i = rb ∨ i = vb ∨ blkOf Av = some i) u4 (qw.setCell ⟨vb, 4, none⟩ (.slice qA (k + 1) qc)) :=
    (Y45.mono fun i h => .inl h).trans m5f fun i h => .inl (h.elim (fun h => .inr (.inl h)) fun h => .inr (.inr h))
  have m4f : Mod (DeF vb Av) u4 (qw.setCell ⟨vb, 4, none⟩ (.slice qA (k + 1) qc)) := m4f0.mono fun i h => by
    rcases h with h | h | h
    · exact .inl (by omega)
    · exact .inl (by omega)
    · exact .inr h
  have hF' : ∀ i, DeF vb qA i → DeF vb Av i ∨ wr.heap.size ≤ i := fun i h => by
    rcases h with h | h
    · exact .inl (.inl h)
    · rcases qat with q | q
      · rw [q] at h
        exact .inl (.inr h)
      · rw [q] at h
        cases h
        exact .inr (by omega)
  have hFb : ∀ i, DeF vb qA i → i < wr.heap.size ∨ i = u5.heap.size + 1 := fun i h => by
    rcases h with h | h
    · exact .inl (by omega)
    · rcases qat with q | q
      · rw [q] at h
        exact .inl (hlv _ h).2
      · rw [q] at h
        cases h
        exact .inr rfl
  have hFa : ∀ i, DeF vb Av i → i < wr.heap.size := fun i h => by
    rcases h with h | h
    · omega
    · exact (hlv _ h).2
  refine ⟨?_, ?_, ?_, ?_, by rw [List.length_append, HP.ln]; rfl, ?_, by rw [List.map_append]; exact htab⟩
  · refine HP.mod.trans mrf0 fun i h => ?_
    rcases h with h | h | h
    · exact .inl (.inl h)
    · exact .inl (.inr h)
    · exact .inr (hlv _ h).1
  · have hb : Blk qw vb 34 #[.int .i64 g1, .int .i64 g2, .int .i64 g3, .int .i64 g4, .slice Av k cv] :=
      ((HP.vbk.mod (Y4.trans Y45 fun i h => .inl h) (by omega)).mod m5q fun h => by have := (hlv _ h).1; omega)
    exact hb.set_ 4 _
  · refine X5.mod m5f (fun h => ?_) fun h0 b hb h => ?_
    · rcases h with h | h
      · omega
      · have := (hlv _ h).1
        omega
    · have := YF h0 b hb
      rcases h with h | h
      · omega
      · have := (hlv _ h).2
        omega
  · refine own_mod qown ((Mod.refl (fun i => i = vb) qw).setCell (p := ⟨vb, 4, none⟩) (.inl rfl) _) fun b hb h => ?_
    rw [own_blk] at hb
    have := (hlq _ hb).1
    omega
  · intro m hm
    rcases List.mem_append.1 hm with hm | hm
    · exact (HP.ok m hm).next mrf hF'
    · rw [List.mem_singleton.1 hm]
      refine ⟨⟨z4.1.mod m4f fun h0 b hb h => ?_, fun h0 b hb h => ?_⟩, ⟨z5.1.mod m5f fun h0 b hb h => ?_, fun h0 b hb h => ?_⟩, ⟨z4.2.1, z4.2.2.1⟩, ⟨z5.2.1, z5.2.2.1⟩⟩
      · have := z4.2.2.2 b hb
        have := hFa b h
        omega
      · have h1 := z4.2.2.2 b hb
        obtain ⟨b', hb', h2⟩ := z4.1.lt h0
        rw [hb] at hb'
        cases hb'
        rcases hFb b h with h | h <;> omega
      · have := z5.2.2.2 b hb
        rcases h with h | h
        · omega
        · have := (hlv _ h).2
          omega
      · have h1 := z5.2.2.2 b hb
        obtain ⟨b', hb', h2⟩ := z5.1.lt h0
        rw [hb] at hb'
        cases hb'
        rcases hFb b h with h | h <;> omega

theorem de_vw {w0 : World} {rb vb : Nat} {g1 g2 g3 g4 : Int} {T : List Mt × Rs} {k : Nat} {nn : Int} {wr : World} {Av : Option Addr} {cv : Nat} {ms : List Mw} {s : Rs} {A : Option Addr} {n c : Nat}
    (HP : DeM w0 rb vb g1 g2 g3 g4 T k nn wr Av cv ms s A n c) (hv0 : vb < w0.heap.size) {S : Nat → Prop} (hS : ∀ i, S i → i ≤ vb) {w' : World} (hm : Mod S wr w') : VwOk w' ⟨g1, g2, g3, g4, Av, cv, ms⟩ := by
  have hlv : ∀ b, blkOf Av = some b → w0.heap.size ≤ b ∧ b < wr.heap.size := fun b hb => HP.own.lt b (by rw [own_blk]; exact hb)
  obtain ⟨hkc, hkm⟩ : k ≤ cv ∧ cv ≤ 9223372036854775807 := by
    obtain ⟨A', c', he, h1, h2⟩ := own_slice HP.own
    cases he
    exact ⟨h1, h2⟩
  refine ⟨?_, by simp only; rw [HP.ln]; exact hkc, hkm, fun m hx => ?_⟩
  · have := (Rd.of_own5 HP.own).mod hm fun _ b hb h => by
      have := (hlv b hb).1
      have := hS b h
      omega
    simp only
    rw [HP.ln]
    exact this
  · have hx := HP.ok m hx
    exact ⟨hx.a.1.mod hm fun h0 b hb h => hx.a.2 h0 b hb (.inl (hS b h)), hx.b.1.mod hm fun h0 b hb h => hx.b.2 h0 b hb (.inl (hS b h)), hx.a1, hx.b1⟩

theorem results_rowtmp {P : Program} {fn : Func} {p u : Tmp} {ty : TypeId} (h : fn.results = #[.cell p ty, .tmp u]) (tmps : Array Value) (w : World) (g : Nat) (t : TypeId) (cs : Array Value) (d : TypeDesc)
    (hp : tmps.getD p undef = .pointer (some ⟨g, 0, none⟩)) (hg : Blk w g t cs)
    (hu : P.underlying ty = some d) (hd : (match d with | .struct _ | .array _ _ => true | _ => false) = true) (hi : (P.info? ty).map (·.size) = some cs.size) (x : Value) (hx : tmps.getD u undef = x) :
    (results fn tmps).run P w = .ok (.tuple #[.agg cs, x]) w := by
  rw [results_cell_tmp h, hp, hx]
  simp only [asAddr, Sem.run_pure, Result.andThen_ok]
  rw [run_loadVar_row w g t ty cs (0, 0) d hg hu hd hi]
  rfl
theorem Blk.five {w : World} {g : Nat} {t : TypeId} {x0 x1 x2 x3 x4 : Value} (h : Blk w g t #[x0, x1, x2, x3, x4]) (a b c d e : Value) :
    Blk (((((w.setCell ⟨g, 0, none⟩ a).setCell ⟨g, 1, none⟩ b).setCell ⟨g, 2, none⟩ c).setCell ⟨g, 3, none⟩ d).setCell ⟨g, 4, none⟩ e) g t #[a, b, c, d, e] :=
  ((((h.set_ 0 a).set_ 1 b).set_ 2 c).set_ 3 d).set_ 4 e
theorem set5 {w W : World} (h : Mod Non w W) (a b c d e : Value) : Mod Non w (((((W.setCell ⟨w.heap.size, 0, none⟩ a).setCell ⟨w.heap.size, 1, none⟩ b).setCell ⟨w.heap.size, 2, none⟩ c).setCell ⟨w.heap.size, 3, none⟩ d).setCell ⟨w.heap.size, 4, none⟩ e) :=
  ((((h.setCell (p := ⟨w.heap.size, 0, none⟩) (.inr (Nat.le_refl _)) _).setCell (p := ⟨w.heap.size, 1, none⟩) (.inr (Nat.le_refl _)) _).setCell (p := ⟨w.heap.size, 2, none⟩) (.inr (Nat.le_refl _)) _).setCell (p := ⟨w.heap.size, 3, none⟩) (.inr (Nat.le_refl _)) _).setCell (p := ⟨w.heap.size, 4, none⟩) (.inr (Nat.le_refl _)) _
theorem set5b {w W : World} {g : Nat} (h : Mod Non w W) (hg : w.heap.size ≤ g) (a b c d e : Value) : Mod Non w (((((W.setCell ⟨g, 0, none⟩ a).setCell ⟨g, 1, none⟩ b).setCell ⟨g, 2, none⟩ c).setCell ⟨g, 3, none⟩ d).setCell ⟨g, 4, none⟩ e) :=
  ((((h.setCell (p := ⟨g, 0, none⟩) (.inr hg) _).setCell (p := ⟨g, 1, none⟩) (.inr hg) _).setCell (p := ⟨g, 2, none⟩) (.inr hg) _).setCell (p := ⟨g, 3, none⟩) (.inr hg) _).setCell (p := ⟨g, 4, none⟩) (.inr hg) _

end Go.Proofs.YtdpjnpjmokncdaaGreatDoor

/- edit.Decode. -/
namespace Go.Proofs.YtdpjnpjmokncdaaGreatDoor
open Go.RowKit

set_option maxRecDepth 100000 in
set_option maxHeartbeats 8000000 in
theorem decode_any (A : Option Addr) (n c : Nat) (l : List UInt8) (w : World) (h : Rd w A n (by8 l)) (hnc : n ≤ c) (hcm : c ≤ 9223372036854775807) (hn : n ≤ 140737488351232) :
    Calls Tryz.prog 46 #[.slice A n c] w (DePost l w) := by
  obtain ⟨g1, s1, h1⟩ : ∃ g s, numP ⟨l, false⟩ = (g, s) := ⟨_, _, rfl⟩
  obtain ⟨g2, s2, h2⟩ : ∃ g s, numP s1 = (g, s) := ⟨_, _, rfl⟩
  obtain ⟨g3, s3, h3⟩ : ∃ g s, numP s2 = (g, s) := ⟨_, _, rfl⟩
  obtain ⟨g4, s4, h4⟩ : ∃ g s, numP s3 = (g, s) := ⟨_, _, rfl⟩
  obtain ⟨g5, s5, h5⟩ : ∃ g s, numP s4 = (g, s) := ⟨_, _, rfl⟩
  obtain ⟨T, hT⟩ : ∃ T, tabsP 4097 g5 s5 [] = T := ⟨_, rfl⟩
  have hpv : parseV l = (⟨g1, g2, g3, g4, T.1⟩, T.2) := by
    unfold parseV
    simp only
    rw [h1]
    simp only
    rw [h2]
    simp only
    rw [h3]
    simp only
    rw [h4]
    simp only
    rw [h5]
    simp only
    rw [hT]
  have hb5 := numP_bd s4
  rw [h5] at hb5
  obtain ⟨hg1, hg2⟩ := hb5
  simp only at hg1 hg2
  obtain ⟨rb, hrb⟩ : ∃ rb, w.heap.size + 1 = rb := ⟨_, rfl⟩
  have hrs : RsAt ((w.alloc (.cells #[.int .i64 0, .int .i64 0, .int .i64 0, .int .i64 0, .slice none 0 0] 34)).alloc (.cells #[.slice A n c, .bool false] 146)) rb ⟨l, false⟩ A n c := by
    rw [← hrb]
    refine ⟨?_, (h.alloc _).alloc _, hnc, hcm, fun h0 b hb e => ?_, hn⟩
    · have := Blk.new (w.alloc (.cells #[.int .i64 0, .int .i64 0, .int .i64 0, .int .i64 0, .slice none 0 0] 34)) 146 #[.slice A n c, .bool false]
      rw [World.size_alloc] at this
      exact this
    · obtain ⟨b', hb', hl⟩ := h.lt h0
      rw [hb] at hb'
      cases hb'
      omega
  have hrz : Blk ((w.alloc (.cells #[.int .i64 0, .int .i64 0, .int .i64 0, .int .i64 0, .slice none 0 0] 34)).alloc (.cells #[.slice A n c, .bool false] 146)) w.heap.size 34 #[.int .i64 0, .int .i64 0, .int .i64 0, .int .i64 0, .slice none 0 0] := (Blk.new _ _ _).alloc _
  have hm0 : Mod Non w ((w.alloc (.cells #[.int .i64 0, .int .i64 0, .int .i64 0, .int .i64 0, .slice none 0 0] 34)).alloc (.cells #[.slice A n c, .bool false] 146)) := ((Mod.refl Non w).alloc _).alloc _
  have HRS := Lib.hid hrs
  have HRZ := Lib.hid hrz
  have HM0 := Lib.hid hm0
  have H0 := Lib.hid h
  have HPV := Lib.hid hpv
  have HT := Lib.hid hT
  have H1 := Lib.hid h1
  have H2 := Lib.hid h2
  have H3 := Lib.hid h3
  have H4 := Lib.hid h4
  have H5 := Lib.hid h5
  have hnum : ∀ s g s', numP s = (g, s') → ∀ rb A n c W, RsAt W rb s A n c → Calls Tryz.prog 85 #[.pointer (some ⟨rb, 0, none⟩)] W (RsPost rb s' (.int .i64 g) W) := fun s g s' hh rb A n c W hW => by
    have := num_any rb s A n c W hW
    rw [hh] at this
    exact this
  have HNUM := Lib.hid hnum
  have htxt : ∀ s g s', textP s = (g, s') → ∀ rb A n c W, RsAt W rb s A n c → Calls Tryz.prog 86 #[.pointer (some ⟨rb, 0, none⟩)] W (fun e w' => ∃ T ct, e = .returned (.slice T g.length ct) ∧ Rd w' T g.length (by8 g) ∧ g.length ≤ ct ∧ ct ≤ 9223372036854775807 ∧ (∀ b, blkOf T = some b → W.heap.size ≤ b) ∧ ∃ A n c, RsAt w' rb s' A n c ∧ Mod (fun k => k = rb) W w' ∧ (0 < n → ∀ b, blkOf A = some b → W.heap.size ≤ b)) := fun s g s' hh rb A n c W hW => by
    have := text_any rb s A n c W hW
    unfold TxPost at this
    rw [hh] at this
    exact this
  have HTXT := Lib.hid htxt
  clear h h1 h2 h3 h4 h5 hT hpv hrs hrz hm0 hnum htxt
  go_enter Tryz.func46, Tryz.ntmps46
  go_wp2_with fail
  have HRB := Lib.hid hrb
  clear hrb
  refine (HNUM.out _ _ _ H1.out _ _ _ _ _ HRS.out).mono ?_
  rintro e w1 ⟨rfl, A1, n1, c1, hr1, hm1, -⟩
  have HR1 := Lib.hid hr1
  have HM1 := Lib.hid hm1
  clear hr1 hm1
  go_wp2_with fail
  refine (HNUM.out _ _ _ H2.out _ _ _ _ _ HR1.out).mono ?_
  rintro e w2 ⟨rfl, A2, n2, c2, hr2, hm2, -⟩
  have HR2 := Lib.hid hr2
  have HM2 := Lib.hid (HM1.out.trans hm2 fun _ h => .inl h)
  clear hr2 hm2
  go_wp2_with fail
  refine (HNUM.out _ _ _ H3.out _ _ _ _ _ HR2.out).mono ?_
  rintro e w3 ⟨rfl, A3, n3, c3, hr3, hm3, -⟩
  have HR3 := Lib.hid hr3
  have HM3 := Lib.hid (HM2.out.trans hm3 fun _ h => .inl h)
  clear hr3 hm3
  go_wp2_with fail
  refine (HNUM.out _ _ _ H4.out _ _ _ _ _ HR3.out).mono ?_
  rintro e w4 ⟨rfl, A4, n4, c4, hr4, hm4, -⟩
  have HM4 := Lib.hid (HM3.out.trans hm4 fun _ h => .inl h)
  have hm4a : Mod Non w4 (w4.alloc (.cells #[.int .i64 g1, .int .i64 g2, .int .i64 g3, .int .i64 g4, .slice none 0 0] 34)) := (Mod.refl Non w4).alloc _
  have HR4 := Lib.hid (hr4.mod hm4a (fun h => h) (fun _ => Off.non _))
  have HM4A := Lib.hid hm4a
  have HVB := Lib.hid (Blk.new w4 34 #[.int .i64 g1, .int .i64 g2, .int .i64 g3, .int .i64 g4, .slice none 0 0])
  have HRV := Lib.hid hr4.blk.lt
  clear hr4 hm4 hm4a
  go_wp2_with fail
  refine (HNUM.out _ _ _ H5.out _ _ _ _ _ HR4.out).mono ?_
  rintro e w5 ⟨rfl, A5, n5, c5, hr5, hm5, -⟩
  have HR5 := Lib.hid hr5
  have HM5 := Lib.hid hm5
  clear hr5 hm5
  have hrv : rb < w4.heap.size := HRV.out
  have HM5w := Lib.hid (((HM0.out.trans HM4.out fun i h => .inr (by rw [h, ← HRB.out]; omega)).trans0 HM4A.out).trans HM5.out fun i h => .inr (by rw [h, ← HRB.out]; omega))
  have hsz5 : w4.heap.size < w5.heap.size := by have := HM5.out.size; rw [World.size_alloc] at this; omega
  have hp0 : DeM w5 rb w4.heap.size g1 g2 g3 g4 T 0 g5 w5 none 0 [] s5 A5 n5 c5 :=
    ⟨Mod.refl _ _, HVB.out.mod HM5.out (by omega), HR5.out, World.ownsRow_nil _ _ _ _, rfl, (fun m hm => by cases hm), HT.out⟩
  have HP0 := Lib.hid hp0
  clear hp0
  go_wp2_with fail
  go_loopw [6] (fun i wr => ∃ (k : Nat) (nn : Int) (Av : Option Addr) (cv : Nat) (ms : List Mw) (s : Rs) (Ar : Option Addr) (nr cr : Nat), i = .int .i64 nn ∧ 0 ≤ nn ∧ nn ≤ 4611686018427387903 ∧ k ≤ 4097 ∧ Hid (DeM w5 rb w4.heap.size g1 g2 g3 g4 T k nn wr Av cv ms s Ar nr cr)) (fun i _ => (intOf i).toNat)
  case atStart => exact ⟨0, g5, none, 0, [], s5, A5, n5, c5, rfl, hg1, hg2, by omega, HP0.out⟩
  case round =>
    obtain ⟨k, nn, Av, cv, ms, s, Ar, nr, cr, rfl, hn0, hn1, hk, HP⟩ := hrel
    have hbd : s.bad = true ∨ s.bad = false := by cases s.bad <;> simp
    have hlv : ∀ b, blkOf Av = some b → w5.heap.size ≤ b ∧ b < wr.heap.size := fun b hb => by
      have := HP.out.own.lt b (by rw [own_blk]; exact hb)
      exact this
    have HLV := Lib.hid hlv
    have hw5r := HP.out.mod.size
    have v0 : wr.cell? ⟨w4.heap.size, 0, none⟩ = some (.int .i64 g1) := HP.out.vbk.cell 0
    have v1 : wr.cell? ⟨w4.heap.size, 1, none⟩ = some (.int .i64 g2) := HP.out.vbk.cell 1
    have v2 : wr.cell? ⟨w4.heap.size, 2, none⟩ = some (.int .i64 g3) := HP.out.vbk.cell 2
    have v3 : wr.cell? ⟨w4.heap.size, 3, none⟩ = some (.int .i64 g4) := HP.out.vbk.cell 3
    have v4 : wr.cell? ⟨w4.heap.size, 4, none⟩ = some (.slice Av k cv) := HP.out.vbk.cell 4
    by_cases hcond : 0 < nn ∧ k ≤ 4096 ∧ s.bad = false
    · obtain ⟨hc1, hc2, hc3⟩ := hcond
      have r1 : wr.cell? ⟨rb, 1, none⟩ = some (.bool false) := by rw [← hc3]; exact HP.out.rs.blk.cell 1
      have i1 : (k : Int) ≤ 4096 := by omega
      obtain ⟨a1, t1, e1⟩ : ∃ g t, numP s = (g, t) := ⟨_, _, rfl⟩
      obtain ⟨a2, t2, e2⟩ : ∃ g t, numP t1 = (g, t) := ⟨_, _, rfl⟩
      obtain ⟨a3, t3, e3⟩ : ∃ g t, numP t2 = (g, t) := ⟨_, _, rfl⟩
      obtain ⟨a4, t4, e4⟩ : ∃ g t, textP t3 = (g, t) := ⟨_, _, rfl⟩
      obtain ⟨a5, t5, e5⟩ : ∃ g t, textP t4 = (g, t) := ⟨_, _, rfl⟩
      have hmeta : metaP s = (⟨a1, a2, a3, a4, a5⟩, t5) := by
        unfold metaP
        simp only
        rw [e1]
        simp only
        rw [e2]
        simp only
        rw [e3]
        simp only
        rw [e4]
        simp only
        rw [e5]
      have htb : tabsP (4097 - (k + 1)) (nn - 1) t5 (ms.map (·.m) ++ [⟨a1, a2, a3, a4, a5⟩]) = T := by
        have := HP.out.tabs
        rw [show 4097 - k = (4097 - (k + 1)) + 1 by omega, tabsP, if_pos ⟨hc1, by rw [List.length_map, HP.out.ln]; exact hc2, hc3⟩, hmeta] at this
        exact this
      have HTB := Lib.hid htb
      have E1 := Lib.hid e1
      have E2 := Lib.hid e2
      have E3 := Lib.hid e3
      have E4 := Lib.hid e4
      have E5 := Lib.hid e5
      have X0 := Lib.hid (HP.out.rs.mod (S := Non) (w' := wr.drew) ((Mod.refl Non wr).drew) (fun h => h) (fun _ => Off.non _))
      have Y0 : Hid (Mod (fun i => i = rb) wr wr.drew) := (Mod.refl _ wr).drew
      have hvf : ∀ W, Mod (fun i => i = rb ∨ blkOf Av = some i) wr W → Blk W w4.heap.size 34 #[.int .i64 g1, .int .i64 g2, .int .i64 g3, .int .i64 g4, .slice Av k cv] := fun W hW =>
        HP.out.vbk.mod hW fun h => by
          rcases h with h | h
          · omega
          · have := (HLV.out _ h).1
            omega
      have HVF := Lib.hid hvf
      have hke : ∀ W, Mod (fun i => i = rb ∨ blkOf Av = some i) wr W → W.cell? ⟨w4.heap.size, 4, none⟩ = some (.slice Av k cv) ∧ W.frozen? ⟨w4.heap.size, 4, none⟩ = false := fun W hW => ⟨(HVF.out W hW).cell 4, (HVF.out W hW).frozen 4⟩
      have HKE := Lib.hid hke
      have hko : ∀ W, Mod (fun i => i = rb) wr W → W.ownsRow w5.heap.size 95 5 (.slice Av k cv) k (ms.flatMap Mw.cells) := fun W hW =>
        own_mod HP.out.own hW fun b hb e => by
          rw [own_blk] at hb
          have := (HLV.out _ hb).1
          omega
      have HKO := Lib.hid hko
      have hks : ∀ W, Mod (fun i => i = rb) wr W → ∀ o, w5.heap.size ≤ (W.alloc o).heap.size := fun W hW o => by
        have := hW.size
        rw [World.size_alloc]
        omega
      have HKS := Lib.hid hks
      have hkq : ∀ W W' o, Mod (fun i => i = rb) wr W → (W.alloc o).grownBy W' (Value.slice Av k cv).ownBlock → Mod (fun i => i = rb ∨ blkOf Av = some i) wr W' := fun W W' o hW hg => by
        refine ((hW.mono (T := fun i => i = rb ∨ blkOf Av = some i) fun i h => .inl h).alloc o).trans (Mod.of_grown (S := fun i => blkOf Av = some i) hg fun i h => by rw [own_blk] at h; exact h) fun i h => .inl (.inr h)
      have HKQ := Lib.hid hkq
      obtain ⟨hk4, hk5⟩ := HKE.out _ (Y0.out.mono fun i h => .inl h)
      clear hmeta htb e1 e2 e3 e4 e5 hvf hke hko hks hkq hlv v0 v1 v2 v3 hc3
      go_wp2_with fail
      go_region_law
        (first
          | (refine step_appM _ rfl (.tmp 41) (.tmp 53) rfl w5.heap.size (.slice Av k cv) k ms rfl ((HKO.out u5 Y5.out).alloc _) _ 1 ⟨⟨a1, a2, a3, a4, a5⟩, T4, q4, T5, q5⟩ rfl (one_meta _ _ ⟨⟨a1, a2, a3, a4, a5⟩, T4, q4, T5, q5⟩) (by omega) (HKS.out u5 Y5.out _) ?_
             intro qA qc qw qhc qhcm qown qg qat
             have QM := Lib.hid (HKQ.out u5 qw _ Y5.out qg)
             obtain ⟨hk4, hk5⟩ := HKE.out qw QM.out
             have QOWN := Lib.hid qown
             have QG := Lib.hid qg
             have QAT := Lib.hid qat
             clear qown qg qat)
          | (go_simp
             first
             | (go_at_call 85
                first
                | ((with_reducible refine (HNUM.out _ _ _ E3.out rb _ _ _ _ X2.out).mono ?_)
                   rintro e u3 ⟨rfl, B3, m3, d3, x3, y3, -⟩
                   have X3 := Lib.hid x3
                   have Y3 := Lib.hid (Y2.out.trans y3 fun _ h => .inl h)
                   obtain ⟨hk4, hk5⟩ := HKE.out u3 (Y3.out.mono fun i h => .inl h)
                   clear x3 y3)
                | ((with_reducible refine (HNUM.out _ _ _ E2.out rb _ _ _ _ X1.out).mono ?_)
                   rintro e u2 ⟨rfl, B2, m2, d2, x2, y2, -⟩
                   have X2 := Lib.hid x2
                   have Y2 := Lib.hid (Y1.out.trans y2 fun _ h => .inl h)
                   obtain ⟨hk4, hk5⟩ := HKE.out u2 (Y2.out.mono fun i h => .inl h)
                   clear x2 y2)
                | ((with_reducible refine (HNUM.out _ _ _ E1.out rb _ _ _ _ X0.out).mono ?_)
                   rintro e u1 ⟨rfl, B1, m1, d1, x1, y1, -⟩
                   have X1 := Lib.hid x1
                   have Y1 := Lib.hid (Y0.out.trans y1 fun _ h => .inl h)
                   obtain ⟨hk4, hk5⟩ := HKE.out u1 (Y1.out.mono fun i h => .inl h)
                   clear x1 y1)
                | fail)
             | (go_at_call 86
                first
                | ((with_reducible refine (HTXT.out _ _ _ E5.out rb _ _ _ _ X4.out).mono ?_)
                   rintro e u5 ⟨T5, q5, rfl, z5a, z5b, z5c, z5d, B5, m5, d5, x5, y5, y5f⟩
                   have X5 := Lib.hid x5
                   have Y45 := Lib.hid y5
                   have Y5 := Lib.hid (Y4.out.trans y5 fun _ h => .inl h)
                   have Z5 := Lib.hid (And.intro z5a (And.intro z5b (And.intro z5c z5d)))
                   have YF := Lib.hid y5f
                   obtain ⟨hk4, hk5⟩ := HKE.out u5 (Y5.out.mono fun i h => .inl h)
                   have hk6 : (u5.alloc (.cells #[.int .i64 a1, .int .i64 a2, .int .i64 a3, .slice T4 a4.length q4, .slice T5 a5.length q5] 95)).cell? ⟨w4.heap.size, 4, none⟩ = some (.slice Av k cv) := (HKE.out _ ((Y5.out.mono fun i h => .inl h).alloc _)).1
                   clear x5 y5 z5a z5b z5c z5d y5f)
                | ((with_reducible refine (HTXT.out _ _ _ E4.out rb _ _ _ _ X3.out).mono ?_)
                   rintro e u4 ⟨T4, q4, rfl, z4a, z4b, z4c, z4d, B4, m4, d4, x4, y4, -⟩
                   have X4 := Lib.hid x4
                   have Y34 := Lib.hid y4.size
                   have Y4 := Lib.hid (Y3.out.trans y4 fun _ h => .inl h)
                   have Z4 := Lib.hid (And.intro z4a (And.intro z4b (And.intro z4c z4d)))
                   obtain ⟨hk4, hk5⟩ := HKE.out u4 (Y4.out.mono fun i h => .inl h)
                   clear x4 y4 z4a z4b z4c z4d)
                | fail)
             | fail)
          | fail)
      all_goals
        have hfin := Lib.hid (de_next HP.out hrv hsz5 Y3.out Y4.out Y34.out Y45.out (x := ⟨⟨a1, a2, a3, a4, a5⟩, T4, q4, T5, q5⟩) Z4.out Z5.out X5.out YF.out QG.out QAT.out QOWN.out HTB.out)
        have hkn : k + 1 ≤ 4097 := by omega
        have hn2 : nn - 1 ≤ 4611686018427387903 := by omega
        clear hk4 hk5 hk6
        go_wp2_with fail
        go_round
        case rel => exact ⟨k + 1, nn - 1, qA, qc, _, _, _, _, _, rfl, by omega, hn2, hkn, hfin.out⟩
        case measure => simp [intOf]; omega
    · have hT2 : T = (ms.map (·.m), s) := by
        have := HP.out.tabs
        rcases Nat.eq_zero_or_pos (4097 - k) with h0 | h0
        · rw [h0, tabsP] at this
          exact this.symm
        · obtain ⟨f, hf⟩ : ∃ f, 4097 - k = f + 1 := ⟨4097 - k - 1, by omega⟩
          rw [hf, tabsP, if_neg (by rw [List.length_map, HP.out.ln]; exact hcond)] at this
          exact this.symm
      obtain ⟨V, hV⟩ : ∃ V, (⟨g1, g2, g3, g4, ms.map (·.m)⟩ : Vs) = V := ⟨_, rfl⟩
      have hpv2 : parseV l = (V, s) := by rw [HPV.out, hT2, ← hV]
      have hHr : w.heap.size < rb := by rw [← HRB.out]; omega
      have hvm := fun w' (hm : Mod (fun i => i ≤ w.heap.size) wr w') => de_vw HP.out hsz5 (S := fun i => i ≤ w.heap.size) (fun i h => by omega) hm
      have hvw : VwOk wr ⟨g1, g2, g3, g4, Av, cv, ms⟩ := hvm wr (Mod.refl _ _)
      have hen : Calls Tryz.prog 77 #[.agg #[.int .i64 g1, .int .i64 g2, .int .i64 g3, .int .i64 g4, .slice Av k cv]] wr (EnPost V wr) := by
        have := encode_any ⟨g1, g2, g3, g4, Av, cv, ms⟩ wr hvw
        unfold Vw.val Vw.v at this
        simp only at this
        rw [HP.out.ln, hV] at this
        exact this
      have hz : Blk wr w.heap.size 34 #[.int .i64 0, .int .i64 0, .int .i64 0, .int .i64 0, .slice none 0 0] :=
        (((HRZ.out.mod HM4.out (by omega)).mod HM4A.out (fun h => h)).mod HM5.out (by omega)).mod HP.out.mod (by omega)
      have HMW := Lib.hid (HM5w.out.trans HP.out.mod fun i h => .inr (by omega))
      have hall : ∀ W, Mod Non wr W → (Blk W w.heap.size 34 #[.int .i64 0, .int .i64 0, .int .i64 0, .int .i64 0, .slice none 0 0] ∧ Blk W w4.heap.size 34 #[.int .i64 g1, .int .i64 g2, .int .i64 g3, .int .i64 g4, .slice Av k cv]) ∧ W.cell? ⟨rb, 1, none⟩ = some (.bool s.bad) := fun W hW =>
        ⟨⟨hz.mod hW fun h => h, HP.out.vbk.mod hW fun h => h⟩, (HP.out.rs.blk.mod hW fun h => h).cell 1⟩
      have HALL := Lib.hid hall
      have hno : (¬ (s.bad = false ∧ checkV V = true ∧ encV V = l)) → ∀ w', Mod Non w w' → DePost l w (.returned (.tuple #[.agg #[.int .i64 0, .int .i64 0, .int .i64 0, .int .i64 0, .slice none 0 0], .int .i64 2])) w' := fun hh w' hw => by
        unfold DePost decV
        rw [hpv2, if_neg hh]
        exact ⟨rfl, hw⟩
      have hyes : s.bad = false → checkV V = true → encV V = l → ∀ w', Mod (fun i => i = w.heap.size) wr w' → Mod Non w w' → DePost l w (.returned (.tuple #[.agg #[.int .i64 g1, .int .i64 g2, .int .i64 g3, .int .i64 g4, .slice Av k cv], .int .i64 0])) w' := fun h1 h2 h3 w' hw hw2 => by
        unfold DePost decV
        rw [hpv2, if_pos ⟨h1, h2, h3⟩]
        refine ⟨⟨g1, g2, g3, g4, Av, cv, ms⟩, hV, ?_, hvm w' (hw.mono fun i h => by omega), fun S w'' hS hm => hvm w'' ((hw.mono fun i h => by omega).trans hm fun i h => .inl (by have := hS i h; omega)), hw2⟩
        unfold Vw.val
        simp only
        rw [HP.out.ln]
      have HNO := Lib.hid hno
      have HYES := Lib.hid hyes
      have HEN := Lib.hid hen
      have r1 : wr.cell? ⟨rb, 1, none⟩ = some (.bool s.bad) := HP.out.rs.blk.cell 1
      obtain ⟨bd, hbq⟩ : ∃ bd, s.bad = bd := ⟨_, rfl⟩
      rw [hbq] at r1
      have HBQ := Lib.hid hbq
      have hc3 : ¬ 0 < nn ∨ (0 < nn ∧ ¬ (k : Int) ≤ 4096) ∨ (0 < nn ∧ (k : Int) ≤ 4096 ∧ bd = true) := by
        by_cases c1 : 0 < nn
        · by_cases c2 : k ≤ 4096
          · refine .inr (.inr ⟨c1, by omega, ?_⟩)
            cases hb : bd
            · exact absurd ⟨c1, c2, by rw [hbq, hb]⟩ hcond
            · rfl
          · exact .inr (.inl ⟨c1, by omega⟩)
        · exact .inl c1
      clear hcond hT2 hV hpv2 hvm hvw hen hz hall hno hyes hbq hbd hlv
      by_cases hck : checkV V = true
      · have hen1 : Calls Tryz.prog 77 #[.agg #[.int .i64 g1, .int .i64 g2, .int .i64 g3, .int .i64 g4, .slice Av k cv]] wr (fun e w' => ∃ A c, e = .returned (.tuple #[.slice A (encV V).length c, .int .i64 0]) ∧ Rd w' A (encV V).length (by8 (encV V)) ∧ (encV V).length ≤ c ∧ c ≤ 9223372036854775807 ∧ Mod Non wr w') :=
          HEN.out.mono fun e w' h => by unfold EnPost at h; rw [if_pos hck] at h; exact h
        have HCK := Lib.hid hck
        obtain ⟨ln, hln⟩ : ∃ ln, (encV V).length = ln := ⟨_, rfl⟩
        rw [hln] at hen1
        have HEN2 := Lib.hid hen1
        clear hen1 hck hln
        cases bd with
        | true =>
          have HN1 := Lib.hid (HNO.out (by rw [HBQ.out]; simp))
          rcases hc3 with q1 | ⟨q1, q2⟩ | ⟨q1, q2, -⟩
          all_goals
            go_wp2_with fail
            refine HEN2.out.mono ?_
            rintro e w6 ⟨EA, ec, rfl, her, hec1, hec2, hem⟩
            obtain ⟨⟨z0, z1⟩, y1⟩ := HALL.out w6 hem
            have HEM := Lib.hid (HMW.out.trans0 hem)
            have HW6 := Lib.hid hem
            have HZ := Lib.hid z0
            have HER := Lib.hid her
            have y00 : w6.cell? ⟨w.heap.size, 0, none⟩ = some (.int .i64 0) := z0.cell 0
            have y01 : w6.cell? ⟨w.heap.size, 1, none⟩ = some (.int .i64 0) := z0.cell 1
            have y02 : w6.cell? ⟨w.heap.size, 2, none⟩ = some (.int .i64 0) := z0.cell 2
            have y03 : w6.cell? ⟨w.heap.size, 3, none⟩ = some (.int .i64 0) := z0.cell 3
            have y04 : w6.cell? ⟨w.heap.size, 4, none⟩ = some (.slice none 0 0) := z0.cell 4
            have f0 := z0.frozen 0
            have f1 := z0.frozen 1
            have f2 := z0.frozen 2
            have f3 := z0.frozen 3
            have f4 := z0.frozen 4
            rw [HBQ.out] at y1
            clear v0 v1 v2 v3 v4 r1 z1 z0 her hec1 hec2 hem
            go_wp2_with fail
            refine bodyPost_ret (results_rowtmp rfl _ _ w.heap.size 34 _ _ rfl (HZ.out.five _ _ _ _ _) Tryz.underlying34 rfl (by kernel_rfl) (.int .i64 2) rfl) rfl ?_
            exact HN1.out _ (set5 HEM.out _ _ _ _ _)
        | false =>
          have hb0 := HBQ.out
          by_cases heq : encV V = l
          · have HY1 := Lib.hid (HYES.out hb0 HCK.out heq)
            have heq' : ∀ (EA : Option Addr) (ec : Nat) (W : World), Rd W EA ln (by8 (encV V)) → Rd W A n (by8 l) → Calls Tryz.prog 87 #[.slice EA ln ec, .slice A n c] W fun e w' => e = .returned (.bool true) ∧ w' = W := fun EA ec W h1 h2 =>
              (equal_any EA A ln ec n c (encV V) l W h1 h2).mono fun e w' h => by rw [decide_eq_true heq] at h; exact h
            have HEQ := Lib.hid heq'
            clear heq heq'
            rcases hc3 with q1 | ⟨q1, q2⟩ | ⟨_, _, q3⟩
            case inr.inr => cases q3
            all_goals
              go_wp2_with fail
              refine HEN2.out.mono ?_
              rintro e w6 ⟨EA, ec, rfl, her, hec1, hec2, hem⟩
              obtain ⟨⟨z0, z1⟩, y1⟩ := HALL.out w6 hem
              have HEM := Lib.hid (HMW.out.trans0 hem)
              have HW6 := Lib.hid hem
              have HZ := Lib.hid z0
              have HER := Lib.hid her
              have y00 : w6.cell? ⟨w.heap.size, 0, none⟩ = some (.int .i64 0) := z0.cell 0
              have y01 : w6.cell? ⟨w.heap.size, 1, none⟩ = some (.int .i64 0) := z0.cell 1
              have y02 : w6.cell? ⟨w.heap.size, 2, none⟩ = some (.int .i64 0) := z0.cell 2
              have y03 : w6.cell? ⟨w.heap.size, 3, none⟩ = some (.int .i64 0) := z0.cell 3
              have y04 : w6.cell? ⟨w.heap.size, 4, none⟩ = some (.slice none 0 0) := z0.cell 4
              have f0 := z0.frozen 0
              have f1 := z0.frozen 1
              have f2 := z0.frozen 2
              have f3 := z0.frozen 3
              have f4 := z0.frozen 4
              rw [HBQ.out] at y1
              have x00 : w6.cell? ⟨w4.heap.size, 0, none⟩ = some (.int .i64 g1) := z1.cell 0
              have x01 : w6.cell? ⟨w4.heap.size, 1, none⟩ = some (.int .i64 g2) := z1.cell 1
              have x02 : w6.cell? ⟨w4.heap.size, 2, none⟩ = some (.int .i64 g3) := z1.cell 2
              have x03 : w6.cell? ⟨w4.heap.size, 3, none⟩ = some (.int .i64 g4) := z1.cell 3
              have x04 : w6.cell? ⟨w4.heap.size, 4, none⟩ = some (.slice Av k cv) := z1.cell 4
              clear v0 v1 v2 v3 v4 r1 z1 z0 her hec1 hec2 hem
              go_wp2_with fail
              refine (HEQ.out EA ec w6 HER.out (H0.out.mod0 HEM.out)).mono ?_
              rintro e w7 ⟨rfl, rfl⟩
              go_wp2_with fail
              refine bodyPost_ret (results_rowtmp rfl _ _ w.heap.size 34 _ _ rfl (HZ.out.five _ _ _ _ _) Tryz.underlying34 rfl (by kernel_rfl) (.int .i64 0) rfl) rfl ?_
              exact HY1.out _ (((((((Mod.refl (fun i => i = w.heap.size) wr).trans0 HW6.out).set1 0 _).set1 1 _).set1 2 _).set1 3 _).set1 4 _) (set5 HEM.out _ _ _ _ _)
          · have HN1 := Lib.hid (HNO.out (fun h => heq h.2.2))
            have heq' : ∀ (EA : Option Addr) (ec : Nat) (W : World), Rd W EA ln (by8 (encV V)) → Rd W A n (by8 l) → Calls Tryz.prog 87 #[.slice EA ln ec, .slice A n c] W fun e w' => e = .returned (.bool false) ∧ w' = W := fun EA ec W h1 h2 =>
              (equal_any EA A ln ec n c (encV V) l W h1 h2).mono fun e w' h => by rw [decide_eq_false heq] at h; exact h
            have HEQ := Lib.hid heq'
            clear heq heq'
            rcases hc3 with q1 | ⟨q1, q2⟩ | ⟨_, _, q3⟩
            case inr.inr => cases q3
            all_goals
              go_wp2_with fail
              refine HEN2.out.mono ?_
              rintro e w6 ⟨EA, ec, rfl, her, hec1, hec2, hem⟩
              obtain ⟨⟨z0, z1⟩, y1⟩ := HALL.out w6 hem
              have HEM := Lib.hid (HMW.out.trans0 hem)
              have HW6 := Lib.hid hem
              have HZ := Lib.hid z0
              have HER := Lib.hid her
              have y00 : w6.cell? ⟨w.heap.size, 0, none⟩ = some (.int .i64 0) := z0.cell 0
              have y01 : w6.cell? ⟨w.heap.size, 1, none⟩ = some (.int .i64 0) := z0.cell 1
              have y02 : w6.cell? ⟨w.heap.size, 2, none⟩ = some (.int .i64 0) := z0.cell 2
              have y03 : w6.cell? ⟨w.heap.size, 3, none⟩ = some (.int .i64 0) := z0.cell 3
              have y04 : w6.cell? ⟨w.heap.size, 4, none⟩ = some (.slice none 0 0) := z0.cell 4
              have f0 := z0.frozen 0
              have f1 := z0.frozen 1
              have f2 := z0.frozen 2
              have f3 := z0.frozen 3
              have f4 := z0.frozen 4
              rw [HBQ.out] at y1
              clear v0 v1 v2 v3 v4 r1 z1 z0 her hec1 hec2 hem
              go_wp2_with fail
              refine (HEQ.out EA ec w6 HER.out (H0.out.mod0 HEM.out)).mono ?_
              rintro e w7 ⟨rfl, rfl⟩
              go_wp2_with fail
              refine bodyPost_ret (results_rowtmp rfl _ _ w.heap.size 34 _ _ rfl (HZ.out.five _ _ _ _ _) Tryz.underlying34 rfl (by kernel_rfl) (.int .i64 2) rfl) rfl ?_
              exact HN1.out _ (set5 HEM.out _ _ _ _ _)
      · have HN1 := Lib.hid (HNO.out (fun h => hck h.2.1))
        have hen2 : Calls Tryz.prog 77 #[.agg #[.int .i64 g1, .int .i64 g2, .int .i64 g3, .int .i64 g4, .slice Av k cv]] wr (fun e w' => e = .returned (.tuple #[.slice none 0 0, .int .i64 1]) ∧ Mod Non wr w') :=
          HEN.out.mono fun e w' h => by unfold EnPost at h; rw [if_neg hck] at h; exact h
        have HEN2 := Lib.hid hen2
        clear hen2 hck
        cases bd with
        | true =>
          rcases hc3 with q1 | ⟨q1, q2⟩ | ⟨q1, q2, -⟩
          all_goals
            go_wp2_with fail
            refine HEN2.out.mono ?_
            rintro e w6 ⟨rfl, hem⟩
            obtain ⟨⟨z0, z1⟩, y1⟩ := HALL.out w6 hem
            have HEM := Lib.hid (HMW.out.trans0 hem)
            have HZ := Lib.hid z0
            have y00 : w6.cell? ⟨w.heap.size, 0, none⟩ = some (.int .i64 0) := z0.cell 0
            have y01 : w6.cell? ⟨w.heap.size, 1, none⟩ = some (.int .i64 0) := z0.cell 1
            have y02 : w6.cell? ⟨w.heap.size, 2, none⟩ = some (.int .i64 0) := z0.cell 2
            have y03 : w6.cell? ⟨w.heap.size, 3, none⟩ = some (.int .i64 0) := z0.cell 3
            have y04 : w6.cell? ⟨w.heap.size, 4, none⟩ = some (.slice none 0 0) := z0.cell 4
            have f0 := z0.frozen 0
            have f1 := z0.frozen 1
            have f2 := z0.frozen 2
            have f3 := z0.frozen 3
            have f4 := z0.frozen 4
            rw [HBQ.out] at y1
            clear v0 v1 v2 v3 v4 r1 z1 z0 hem
            go_wp2_with fail
            refine bodyPost_ret (results_rowtmp rfl _ _ w.heap.size 34 _ _ rfl (HZ.out.five _ _ _ _ _) Tryz.underlying34 rfl (by kernel_rfl) (.int .i64 2) rfl) rfl ?_
            exact HN1.out _ (set5 HEM.out _ _ _ _ _)
        | false =>
          rcases hc3 with q1 | ⟨q1, q2⟩ | ⟨_, _, q3⟩
          case inr.inr => cases q3
          all_goals
            go_wp2_with fail
            refine HEN2.out.mono ?_
            rintro e w6 ⟨rfl, hem⟩
            obtain ⟨⟨z0, z1⟩, y1⟩ := HALL.out w6 hem
            have HEM := Lib.hid (HMW.out.trans0 hem)
            have HZ := Lib.hid z0
            have y00 : w6.cell? ⟨w.heap.size, 0, none⟩ = some (.int .i64 0) := z0.cell 0
            have y01 : w6.cell? ⟨w.heap.size, 1, none⟩ = some (.int .i64 0) := z0.cell 1
            have y02 : w6.cell? ⟨w.heap.size, 2, none⟩ = some (.int .i64 0) := z0.cell 2
            have y03 : w6.cell? ⟨w.heap.size, 3, none⟩ = some (.int .i64 0) := z0.cell 3
            have y04 : w6.cell? ⟨w.heap.size, 4, none⟩ = some (.slice none 0 0) := z0.cell 4
            have f0 := z0.frozen 0
            have f1 := z0.frozen 1
            have f2 := z0.frozen 2
            have f3 := z0.frozen 3
            have f4 := z0.frozen 4
            rw [HBQ.out] at y1
            clear v0 v1 v2 v3 v4 r1 z1 z0 hem
            go_wp2_with fail
            refine bodyPost_ret (results_rowtmp rfl _ _ w.heap.size 34 _ _ rfl (HZ.out.five _ _ _ _ _) Tryz.underlying34 rfl (by kernel_rfl) (.int .i64 2) rfl) rfl ?_
            exact HN1.out _ (set5 HEM.out _ _ _ _ _)

end Go.Proofs.YtdpjnpjmokncdaaGreatDoor
