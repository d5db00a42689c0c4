/- An operation of CatPlays opened (a struct within a struct). -/
import Derived.Test.YtdpjnpjmokncdaaGreatDoorB50
import Derived.Test.YtdpjnpjmokncdaaGreatDoorB49
namespace Go.Proofs.YtdpjnpjmokncdaaGreatDoor
open Go.ChangeShapes Go.WideShapes Go.ChangeAt Go.RowKit Go.Deep

section
variable {H : Type} {enc : TypeId × Value → H} {w : World} {cs : List Value}
theorem Reads.structW {P : Program} {t : TypeId} {fs : Array Field} (hs : P.underlying t = some (.struct fs)) (h : Reads enc P w t cs) :
    cs.length = P.cellsOf t ∧ ∀ (i : Nat) (f : Field), fs[i]? = some f → Reads enc P w f.type ((cs.drop f.offset).take (P.cellsOf f.type)) := by
  obtain ⟨d, p, fuel, hf, hw⟩ := h
  obtain ⟨xs, n, _, hx, hlen, hxl, hfs⟩ := DataW.trod_struct hs hf
  cases hx
  refine ⟨by omega, fun i f hi => ?_⟩
  have hlt : i < fs.size := (Array.getElem?_eq_some_iff.1 hi).1
  have g := hfs i f hi
  rw [List.getElem?_eq_getElem (show i < xs.length by omega)] at g
  refine ⟨(xs[i]'(by omega)).1, (xs[i]'(by omega)).2, n, g, fun x hx => hw x ?_⟩
  simp only [DataW.weights, hs]
  exact DataW.weights_mem_each (j := i) (t := f.type) (d := (xs[i]'(by omega)).1) (by simp [hi]) (by simp [List.getElem?_eq_getElem (show i < xs.length by omega)]) x hx
theorem cellsI : Tryz.prog.cellsOf 3 = 1 := by kernel_rfl
theorem cellsSI : Tryz.prog.cellsOf 43 = 1 := by kernel_rfl
theorem cellsOq : Tryz.prog.cellsOf 69 = 8 := by kernel_rfl
set_option maxRecDepth 100000 in
/-- an operation. -/
theorem open_op (h : Reads enc Tryz.prog w 69 cs) : ∃ o : Oq, cs = o.cells ∧ OqOk w o := by
  obtain ⟨hl, hf⟩ := h.structW Tryz.underlying69
  rw [cellsOq] at hl
  match cs, hl, hf with
  | [a0, a1, a2, a3, a4, a5, a6, a7], _, hf =>
    have r0 : Reads enc Tryz.prog w 3 [a0] := by
      have h : Reads enc Tryz.prog w 3 (([a0, a1, a2, a3, a4, a5, a6, a7].drop 0).take (Tryz.prog.cellsOf 3)) := hf 0 _ rfl
      rw [cellsI] at h
      exact h
    have r1 : Reads enc Tryz.prog w 3 [a1] := by
      have h : Reads enc Tryz.prog w 3 (([a0, a1, a2, a3, a4, a5, a6, a7].drop 1).take (Tryz.prog.cellsOf 3)) := hf 1 _ rfl
      rw [cellsI] at h
      exact h
    have r2 : Reads enc Tryz.prog w 30 [a2, a3, a4, a5, a6] := by
      have h : Reads enc Tryz.prog w 30 (([a0, a1, a2, a3, a4, a5, a6, a7].drop 2).take (Tryz.prog.cellsOf 30)) := hf 2 _ rfl
      rw [cellsVr] at h
      exact h
    have r3 : Reads enc Tryz.prog w 43 [a7] := by
      have h : Reads enc Tryz.prog w 43 (([a0, a1, a2, a3, a4, a5, a6, a7].drop 7).take (Tryz.prog.cellsOf 43)) := hf 3 _ rfl
      rw [cellsSI] at h
      exact h
    obtain ⟨i0, h0, _⟩ := r0.int Tryz.underlying3
    obtain ⟨i1, h1, hw1⟩ := r1.int Tryz.underlying3
    obtain ⟨x, hx, hxo⟩ := open_version r2
    obtain ⟨Q, q, cq, picks, h3, hq1, hq2, hrq, _⟩ := r3.ints
    have hat : i1 ≤ 9223372036854775807 := by
      simp only [Lit.wf, Bool.and_eq_true, decide_eq_true_eq] at hw1
      have : IntKind.i64.max = 9223372036854775807 := rfl
      omega
    cases h0; cases h1; cases h3
    have hmx : maxLen = 9223372036854775807 := rfl
    refine ⟨⟨i0, i1, x, Q, q, cq, picks⟩, ?_, ⟨hxo, hrq, by show q ≤ _; omega, hat⟩⟩
    simp only [Vw.cells, List.cons.injEq, and_true] at hx
    obtain ⟨rfl, rfl, rfl, rfl, rfl⟩ := hx
    rfl
theorem open_ops (h : Reads enc Tryz.prog w 66 cs) : ∃ (A : Option Addr) (n c : Nat) (xs : List Oq), cs = [.slice A n c] ∧ n ≤ 9223372036854775807 ∧ xs.length = n ∧ Rd w A (n * 8) (xs.flatMap Oq.cells) ∧ ∀ x ∈ xs, OqOk w x := by
  obtain ⟨A, n, c, rfl, hnc, hcm, _, hc⟩ := h.slice Tryz.underlying66 cellsOq (by omega)
  have hmx : maxLen = 9223372036854775807 := rfl
  rcases Nat.eq_zero_or_pos n with rfl | h0
  · exact ⟨A, 0, c, [], rfl, by omega, rfl, Rd.nil _ _, by simp⟩
  · obtain ⟨b, o, rfl, hel⟩ := hc h0
    obtain ⟨xs, hl, hq⟩ := list_of (fun i (x : Oq) => (∀ j u, (Oq.cells x)[j]? = some u → w.cell? ⟨b, o + (i * 8 + j), none⟩ = some u) ∧ OqOk w x) n fun i hi => by
      obtain ⟨cs', _, hcell, hr⟩ := hel i hi
      obtain ⟨x, rfl, h1⟩ := open_op hr
      exact ⟨x, hcell, h1⟩
    refine ⟨_, n, c, xs, rfl, by omega, hl, rd_rows 8 Oq.cells (fun _ => rfl) hl fun i x hx => (hq i x hx).1, fun x hx => ?_⟩
    obtain ⟨i, hi⟩ := List.mem_iff_getElem?.1 hx
    exact (hq i x hi).2
end

end Go.Proofs.YtdpjnpjmokncdaaGreatDoor
