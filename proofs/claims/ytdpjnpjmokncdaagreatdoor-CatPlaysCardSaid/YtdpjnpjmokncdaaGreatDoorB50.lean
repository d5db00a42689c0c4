/- The arguments of the laws of package cat opened: versions, files, numbers. -/
import Derived.Test.YtdpjnpjmokncdaaGreatDoorB27
import Derived.Test.YtdpjnpjmokncdaaGreatDoorB31
import Derived.Test.YtdpjnpjmokncdaaGreatDoorB14
import Derived.Test.YtdpjnpjmokncdaaGreatDoorB19
import Derived.LaidLaws
namespace Go.Proofs.YtdpjnpjmokncdaaGreatDoor
open Go.ChangeShapes Go.WideShapes Go.ChangeAt Go.RowKit Go.Deep

section
variable {H : Type} {enc : TypeId × Value → H} {w : World} {cs : List Value}
set_option maxRecDepth 100000 in
/-- a note. -/
theorem open_meta (h : Reads enc Tryz.prog w 62 cs) : ∃ x : Mw, cs = x.cells ∧ MwOk w x := by
  obtain ⟨hl, hf⟩ := h.struct Tryz.underlying62 (hone_of (by kernel_rfl)) (by kernel_rfl)
  obtain ⟨v0, e0, r0⟩ := hf 0 _ rfl
  obtain ⟨v1, e1, r1⟩ := hf 1 _ rfl
  obtain ⟨v2, e2, r2⟩ := hf 2 _ rfl
  obtain ⟨v3, e3, r3⟩ := hf 3 _ rfl
  obtain ⟨v4, e4, r4⟩ := hf 4 _ rfl
  obtain ⟨i0, h0, _⟩ := r0.int Tryz.underlying3
  obtain ⟨i1, h1, _⟩ := r1.int Tryz.underlying3
  obtain ⟨i2, h2, _⟩ := r2.int Tryz.underlying3
  obtain ⟨B, m, c, l, h3, hmc, hc, _, hrd, hlen⟩ := r3.bytes
  obtain ⟨B', m', c', l', h4, hmc', hc', _, hrd', hlen'⟩ := r4.bytes
  cases h0; cases h1; cases h2; cases h3; cases h4
  refine ⟨⟨⟨i0, i1, i2, l, l'⟩, B, c, B', c'⟩, ?_, ⟨by simp only; rw [hlen]; exact hrd, by simp only; rw [hlen']; exact hrd', by simp only; rw [hlen]; exact ⟨hmc, hc⟩, by simp only; rw [hlen']; exact ⟨hmc', hc'⟩⟩⟩
  match cs, hl with
  | [a0, a1, a2, a3, a4], _ =>
    simp only [List.getElem?_cons_zero, List.getElem?_cons_succ, Option.some.injEq] at e0 e1 e2 e3 e4
    rw [e0, e1, e2, e3, e4, ← hlen, ← hlen']
    rfl
theorem cellsMr : Tryz.prog.cellsOf 62 = 5 := by kernel_rfl
theorem open_metas (h : Reads enc Tryz.prog w 28 cs) : ∃ (A : Option Addr) (n c : Nat) (xs : List Mw), cs = [.slice A n c] ∧ xs.length = n ∧ n ≤ c ∧ c ≤ 9223372036854775807 ∧ Rd w A (n * 5) (xs.flatMap Mw.cells) ∧ ∀ x ∈ xs, MwOk w x := by
  obtain ⟨A, n, c, rfl, hnc, hcm, _, hc⟩ := h.slice Tryz.underlying28 cellsMr (by omega)
  have hmx : maxLen = 9223372036854775807 := rfl
  rcases Nat.eq_zero_or_pos n with rfl | h0
  · exact ⟨A, 0, c, [], rfl, rfl, hnc, by omega, Rd.nil _ _, by simp⟩
  · obtain ⟨b, o, rfl, hel⟩ := hc h0
    obtain ⟨xs, hl, hq⟩ := list_of (fun i (x : Mw) => (∀ j u, (Mw.cells x)[j]? = some u → w.cell? ⟨b, o + (i * 5 + j), none⟩ = some u) ∧ MwOk w x) n fun i hi => by
      obtain ⟨cs', _, hcell, hr⟩ := hel i hi
      obtain ⟨x, rfl, h1⟩ := open_meta hr
      exact ⟨x, hcell, h1⟩
    refine ⟨_, n, c, xs, rfl, hl, hnc, by omega, rd_rows 5 Mw.cells (fun _ => rfl) hl fun i x hx => (hq i x hx).1, fun x hx => ?_⟩
    obtain ⟨i, hi⟩ := List.mem_iff_getElem?.1 hx
    exact (hq i x hi).2
set_option maxRecDepth 100000 in
/-- a version. -/
theorem open_version (h : Reads enc Tryz.prog w 30 cs) : ∃ x : Vw, cs = x.cells ∧ VwOk w x := by
  obtain ⟨hl, hf⟩ := h.struct Tryz.underlying30 (hone_of (by kernel_rfl)) (by kernel_rfl)
  obtain ⟨v0, e0, r0⟩ := hf 0 _ rfl
  obtain ⟨v1, e1, r1⟩ := hf 1 _ rfl
  obtain ⟨v2, e2, r2⟩ := hf 2 _ rfl
  obtain ⟨v3, e3, r3⟩ := hf 3 _ rfl
  obtain ⟨v4, e4, r4⟩ := hf 4 _ rfl
  obtain ⟨i0, h0, _⟩ := r0.int Tryz.underlying3
  obtain ⟨i1, h1, _⟩ := r1.int Tryz.underlying3
  obtain ⟨i2, h2, _⟩ := r2.int Tryz.underlying3
  obtain ⟨i3, h3, _⟩ := r3.int Tryz.underlying3
  obtain ⟨A, n, c, xs, h4, hxl, hnc, hcm, hr, hok⟩ := open_metas r4
  cases h0; cases h1; cases h2; cases h3; cases h4
  refine ⟨⟨i0, i1, i2, i3, A, c, xs⟩, ?_, ⟨by simp only; rw [hxl]; exact hr, by simp only; rw [hxl]; exact hnc, hcm, hok⟩⟩
  match cs, hl with
  | [a0, a1, a2, a3, a4], _ =>
    simp only [List.getElem?_cons_zero, List.getElem?_cons_succ, Option.some.injEq] at e0 e1 e2 e3 e4
    rw [e0, e1, e2, e3, e4, ← hxl]
    rfl
theorem cellsVr : Tryz.prog.cellsOf 30 = 5 := by kernel_rfl
theorem open_versions (h : Reads enc Tryz.prog w 22 cs) : ∃ (A : Option Addr) (n c : Nat) (xs : List Vw), cs = [.slice A n c] ∧ n ≤ 9223372036854775807 ∧ xs.length = n ∧ Rd w A (n * 5) (xs.flatMap Vw.cells) ∧ ∀ x ∈ xs, VwOk w x := by
  obtain ⟨A, n, c, rfl, hnc, hcm, _, hc⟩ := h.slice Tryz.underlying22 cellsVr (by omega)
  have hmx : maxLen = 9223372036854775807 := rfl
  rcases Nat.eq_zero_or_pos n with rfl | h0
  · exact ⟨A, 0, c, [], rfl, by omega, rfl, Rd.nil _ _, by simp⟩
  · obtain ⟨b, o, rfl, hel⟩ := hc h0
    obtain ⟨xs, hl, hq⟩ := list_of (fun i (x : Vw) => (∀ j u, (Vw.cells x)[j]? = some u → w.cell? ⟨b, o + (i * 5 + j), none⟩ = some u) ∧ VwOk w x) n fun i hi => by
      obtain ⟨cs', _, hcell, hr⟩ := hel i hi
      obtain ⟨x, rfl, h1⟩ := open_version hr
      exact ⟨x, hcell, h1⟩
    refine ⟨_, n, c, xs, rfl, by omega, hl, rd_rows 5 Vw.cells (fun _ => rfl) hl fun i x hx => (hq i x hx).1, fun x hx => ?_⟩
    obtain ⟨i, hi⟩ := List.mem_iff_getElem?.1 hx
    exact (hq i x hi).2
set_option maxRecDepth 100000 in
/-- a file. -/
theorem open_file (h : Reads enc Tryz.prog w 67 cs) : ∃ x : Fw, cs = x.cells ∧ Rd w x.A x.bytes.length (by8 x.bytes) ∧ x.name.size ≤ 140737488351232 ∧ x.bytes.length ≤ 140737488351232 := by
  obtain ⟨hl, hf⟩ := h.struct Tryz.underlying67 (hone_of (by kernel_rfl)) (by kernel_rfl)
  obtain ⟨v0, e0, r0⟩ := hf 0 _ rfl
  obtain ⟨v1, e1, r1⟩ := hf 1 _ rfl
  obtain ⟨v2, e2, r2⟩ := hf 2 _ rfl
  obtain ⟨s, hs, hsz⟩ := r0.string Tryz.underlying9
  obtain ⟨n, hn, _⟩ := r1.int Tryz.underlying3
  obtain ⟨A, m, c, l, hb, _, _, hm, hrd, hlen⟩ := r2.bytes
  cases hs; cases hn; cases hb
  refine ⟨⟨s, n, l, A, c⟩, ?_, by rw [hlen]; exact hrd, hsz, by rw [hlen]; exact hm⟩
  match cs, hl with
  | [a, b, c'], _ =>
    simp only [List.getElem?_cons_zero, List.getElem?_cons_succ, Option.some.injEq] at e0 e1 e2
    rw [e0, e1, e2, ← hlen]
    rfl
theorem cellsF : Tryz.prog.cellsOf 67 = 3 := by kernel_rfl
theorem flatW_is' (xs : List Fw) : flatW xs = xs.flatMap Fw.cells := by
  induction xs with
  | nil => rfl
  | cons b r ih => rw [flatW, ih]; rfl
theorem open_files (h : Reads enc Tryz.prog w 50 cs) : ∃ (A : Option Addr) (n c : Nat) (fs : List Fw), cs = [.slice A n c] ∧ n ≤ 9223372036854775807 ∧ Rd w A (n * 3) (flatW fs) ∧ ∀ x ∈ fs, Rd w x.A x.bytes.length (by8 x.bytes) ∧ x.name.size ≤ 140737488351232 ∧ x.bytes.length ≤ 140737488351232 := by
  obtain ⟨A, n, c, rfl, hnc, hcm, _, hc⟩ := h.slice Tryz.underlying50 cellsF (by omega)
  have hmx : maxLen = 9223372036854775807 := rfl
  rcases Nat.eq_zero_or_pos n with rfl | h0
  · exact ⟨A, 0, c, [], rfl, by omega, Rd.nil _ _, by simp⟩
  · obtain ⟨b, o, rfl, hel⟩ := hc h0
    obtain ⟨fs, hl, hq⟩ := list_of (fun i (x : Fw) => (∀ j u, (Fw.cells x)[j]? = some u → w.cell? ⟨b, o + (i * 3 + j), none⟩ = some u) ∧ Rd w x.A x.bytes.length (by8 x.bytes) ∧ x.name.size ≤ 140737488351232 ∧ x.bytes.length ≤ 140737488351232) n fun i hi => by
      obtain ⟨cs', _, hcell, hr⟩ := hel i hi
      obtain ⟨x, rfl, h1, h2, h3⟩ := open_file hr
      exact ⟨x, hcell, h1, h2, h3⟩
    refine ⟨_, n, c, fs, rfl, by omega, ?_, fun x hx => ?_⟩
    · rw [flatW_is']
      exact rd_rows 3 Fw.cells (fun _ => rfl) hl fun i x hx => (hq i x hx).1
    · obtain ⟨i, hi⟩ := List.mem_iff_getElem?.1 hx
      exact (hq i x hi).2
end

theorem gSy : Tryz.prog.globalNamed "strconv.ErrSyntax" = some 1 := by kernel_rfl
theorem gRg : Tryz.prog.globalNamed "strconv.ErrRange" = some 2 := by kernel_rfl
theorem tSy : (Tryz.prog.globals[1]?).map (·.type) = some 138 := by kernel_rfl
theorem tRg : (Tryz.prog.globals[2]?).map (·.type) = some 138 := by kernel_rfl
theorem errCell_of {g t fuel : Nat} {n nm : String} {d : DataW Unit} {cs : Array Value} {p : List MemPlace} {W : World} {g0 : Nat} (h0 : Tryz.prog.globalNamed n = some g0) (h1 : (Tryz.prog.globals[g0]?).map (·.type) = some 138)
    (hg : Tryz.prog.globalNamed n = some g) (ht : (Tryz.prog.globals[g]?).map (·.type) = some t) (hv : W.var? Tryz.prog n = some cs) (hd : DataW.trod (fun _ => ()) Tryz.prog W 0 (fun _ => true) false fuel t cs.toList = some (.iface nm d, p)) : ErrCell W g0 := by
  obtain rfl := Option.some.inj (h0.symm.trans hg)
  obtain rfl := Option.some.inj (h1.symm.trans ht)
  obtain ⟨f1, u, v, hcs, _⟩ := iface_of_trod Tryz.underlying138 hd
  refine ⟨u, v, ?_⟩
  rw [World.var?_cell h0 hv 0]
  rw [← Array.getElem?_toList, hcs]
  rfl
theorem errs_of_laid {x y z : String × DataW Unit} {n1 n2 : String} {d1 d2 : DataW Unit} {r : List (String × DataW Unit)} {W : World} (h : laidMet Tryz.prog (x :: y :: z :: ("strconv.ErrRange", .iface n1 d1) :: ("strconv.ErrSyntax", .iface n2 d2) :: r) W) : Errs W := by
  obtain ⟨ps, ⟨_, _, _, _, _, _, _, _, _, _, ⟨_, _, _, _, _, _, _, _, _, _, ⟨_, _, _, _, _, _, _, _, _, _, ⟨g1, t1, c1, f1, p1, q1, hg1, ht1, hv1, hd1, ⟨g2, t2, c2, f2, p2, q2, hg2, ht2, hv2, hd2, _, _⟩, _⟩, _⟩, _⟩, _⟩, _⟩ := h
  exact ⟨errCell_of gSy tSy hg2 ht2 hv2 hd2, errCell_of gRg tRg hg1 ht1 hv1 hd1⟩

end Go.Proofs.YtdpjnpjmokncdaaGreatDoor
