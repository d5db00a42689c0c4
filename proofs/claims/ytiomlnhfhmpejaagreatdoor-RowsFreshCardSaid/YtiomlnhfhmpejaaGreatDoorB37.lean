/- From a walk to a row: how the arguments of these laws are opened, and shut again unturned. -/
import Derived.Test.YtiomlnhfhmpejaaGreatDoorB14
import Derived.Test.YtiomlnhfhmpejaaGreatDoorB08
import Derived.WalkKit
import Derived.ProofKit
import Derived.OpenShut
import Derived.Carry
import Derived.ChangeSlices
import Derived.Deep.Matrix
import Derived.Deep.DeepHandedRow
import Derived.Lib.LaidTab
namespace Go.Proofs.YtiomlnhfhmpejaaGreatDoor
open Go.ChangeShapes Go.WideShapes Go.ChangeAt Go.RowKit Go.Deep

theorem cellsB : Tryz.prog.cellsOf 5 = 1 := by kernel_rfl
theorem cellsS : Tryz.prog.cellsOf 54 = 1 := by kernel_rfl
theorem laidOut : laidOutB Tryz.prog = true := by kernel_rfl

theorem spot_none {w : World} {a : Addr} {v : Value} (h : w.cell? a = some v) : a.spot = none := by
  unfold World.cell? at h
  split at h
  · split at h
    · cases h
    · rename_i h2; simpa using h2
  · cases h
def byteOf (n : Int) : UInt8 := UInt8.ofNat n.toNat
theorem b8_byteOf {n : Int} (h : (Lit.int .u8 n).wf = true) : b8 (byteOf n) = .int .u8 n := by
  simp only [Lit.wf, Bool.and_eq_true, decide_eq_true_eq] at h
  simp [IntKind.min, IntKind.max, IntKind.bits, IntKind.signed] at h
  unfold b8 byteOf
  have : (UInt8.ofNat n.toNat).toNat = n.toNat := by simp [UInt8.toNat_ofNat']; omega
  rw [this]
  congr 1
  omega

theorem rd_of_cells {w : World} {a : Addr} {n : Nat} {zs : List Int} (hn : n ≤ zs.length) (hc : ∀ i, i < zs.length → w.cell? (a.add i) = some (.int .u8 (zs.getD i 0))) (hw : ∀ z ∈ zs, (Lit.int .u8 z).wf = true) :
    Rd w (some a) n (by8 ((zs.take n).map byteOf)) := by
  refine ⟨by simp; omega, fun h0 => ?_⟩
  obtain ⟨b, o, sp⟩ := a
  have h1 := spot_none (hc 0 (by omega))
  have h2 : sp = none := by
    simpa [Addr.add] using h1
  subst h2
  refine ⟨b, o, rfl, fun j u hu => ?_⟩
  have hj : j < n := by
    have := (List.getElem?_eq_some_iff.1 hu).1
    simp at this
    omega
  have hj2 : j < zs.length := by omega
  rw [by8_get, List.getElem?_map, List.getElem?_take_of_lt hj, List.getElem?_eq_getElem hj2] at hu
  simp only [Option.map_some, Option.some.injEq] at hu
  have h3 := hc j hj2
  have h4 : (⟨b, o, none⟩ : Addr).add j = ⟨b, o + j, none⟩ := by unfold Addr.add; split <;> simp_all
  rw [h4, List.getD_eq_getElem?_getD, List.getElem?_eq_getElem hj2] at h3
  rw [h3, ← hu, b8_byteOf (hw _ (List.getElem_mem hj2))]
  rfl

section
variable {H : Type} {enc : TypeId × Value → H} {w : World}
set_option maxRecDepth 100000 in
/-- a slice of bytes among the arguments. -/
theorem open_bytes {b0 : Nat} {v : Value} {d : DataW H} {p : List MemPlace} (hv : Value.okWide Tryz.prog w .any b0 54 v) (h : DataW.Trod enc Tryz.prog w 0 (fun _ => true) true 54 v d p) :
    ∃ A n c l, v = .slice A n c ∧ n ≤ c ∧ c ≤ 9223372036854775807 ∧ Rd w A n (by8 l) := by
  obtain ⟨a0, n0, c0, rfl⟩ := okWide_slice Tryz.underlying54 hv
  obtain ⟨fuel, hf⟩ := h
  have hmx : maxLen = 9223372036854775807 := rfl
  rcases open_ints (k := .u8) Tryz.underlying54 Tryz.underlying5 cellsB hf with ⟨hcs, _⟩ | ⟨a, len, cap, zs, hcs, _, hl, hm, hz, _, hcell, hwz⟩
  · simp [Value.cells] at hcs
    obtain ⟨rfl, rfl, rfl⟩ := hcs
    exact ⟨none, 0, 0, [], rfl, Nat.le_refl _, by omega, Rd.nil _ _⟩
  · simp [Value.cells] at hcs
    obtain ⟨rfl, rfl, rfl⟩ := hcs
    simp only [if_true] at hz
    exact ⟨some a, n0, c0, _, rfl, hl, by omega, rd_of_cells (by omega) hcell hwz⟩
set_option maxRecDepth 100000 in
/-- a slice of slices of bytes among the arguments. -/
theorem open_rows {b0 : Nat} {v : Value} {d : DataW H} {p : List MemPlace} (hv : Value.okWide Tryz.prog w .any b0 112 v) (h : DataW.Trod enc Tryz.prog w 0 (fun _ => true) true 112 v d p) :
    ∃ A n c xs, v = .slice A n c ∧ n ≤ c ∧ c ≤ 9223372036854775807 ∧ RdS w A n xs ∧ ∀ x ∈ xs, x.n ≤ 9223372036854775807 := by
  obtain ⟨a0, n0, c0, rfl⟩ := okWide_slice Tryz.underlying112 hv
  obtain ⟨fuel, hf⟩ := h
  have hmx : maxLen = 9223372036854775807 := rfl
  rcases open_int_rows (k := .u8) Tryz.underlying112 Tryz.underlying54 Tryz.underlying5 cellsS cellsB hf with ⟨hcs, _⟩ | ⟨a, len, cap, A, L, C, Z, hcs, _, hl, hm, _, hrow⟩
  · simp [Value.cells] at hcs
    obtain ⟨rfl, rfl, rfl⟩ := hcs
    exact ⟨none, 0, 0, [], rfl, Nat.le_refl _, by omega, ⟨Rd.nil _ _, by simp⟩, by simp⟩
  · simp [Value.cells] at hcs
    obtain ⟨rfl, rfl, rfl⟩ := hcs
    refine ⟨some a, n0, c0, (List.range n0).map fun r => ⟨A r, L r, C r, ((Z r).take (L r)).map byteOf⟩, rfl, hl, by omega, ⟨⟨by simp, fun h0 => ?_⟩, fun x hx => ?_⟩, fun x hx => ?_⟩
    · obtain ⟨b, o, sp⟩ := a
      have h1 := spot_none (hrow 0 (by omega)).1
      have h2 : sp = none := by
        simpa [Addr.add] using h1
      subst h2
      refine ⟨b, o, rfl, fun j u hu => ?_⟩
      simp only [List.map_map] at hu
      have hj : j < n0 := by
        have := (List.getElem?_eq_some_iff.1 hu).1
        simpa using this
      rw [List.getElem?_map, List.getElem?_range hj] at hu
      simp only [Option.map_some, Option.some.injEq] at hu
      subst hu
      have h4 : (⟨b, o, none⟩ : Addr).add j = ⟨b, o + j, none⟩ := by unfold Addr.add; split <;> simp_all
      have h3 := (hrow j (by omega)).1
      rw [h4] at h3
      exact h3
    · obtain ⟨r, hr, rfl⟩ := List.mem_map.1 hx
      have hr' := List.mem_range.1 hr
      obtain ⟨_, h2, h3, h4, h5, h6, h7⟩ := hrow r (by omega)
      cases hA : A r with
      | none =>
        have h0 := h6 hA
        have : L r = 0 := by omega
        simp only [this]
        have hz : (Z r).take 0 = [] := rfl
        rw [hz]
        exact Rd.nil _ _
      | some a' =>
        exact rd_of_cells (by show L r ≤ _; omega) (fun i hi => (h7 a' hA).2 i (by omega)) h5
    · obtain ⟨r, hr, rfl⟩ := List.mem_map.1 hx
      have hr' := List.mem_range.1 hr
      obtain ⟨_, h2, h3, _⟩ := hrow r (by omega)
      simp only
      omega
end

/-- The arguments read behind the call as before, where nothing old has turned. -/
theorem trodAll_stays {H : Type} {enc : TypeId × Value → H} {W W' : World} (hb : Below W.heap.size W W') : ∀ {ts : List TypeId} {vs : List Value} {ds : List (DataW H)} {p : List MemPlace},
    (∀ t ∈ ts, Tryz.prog.readableRec t = true ∧ t < Tryz.prog.types.size) → DataW.TrodAll enc Tryz.prog W 0 (fun _ => true) true ts vs ds p → (∀ x ∈ p, x.block < W.heap.size) →
    DataW.TrodAll enc Tryz.prog W' 0 (fun b => decide (b < W.heap.size)) true ts vs ds p
  | [], _, _, _, _, h, _ => by
    obtain ⟨rfl, rfl, rfl⟩ := trodAll_nil h
    exact trodAll_mk0
  | t :: ts, _, _, _, ht, h, hp => by
    obtain ⟨v, vs1, d, ds1, a, b, rfl, rfl, rfl, h1, h2⟩ := trodAll_cons h
    exact trodAll_cons_mk (Below.trod laidOut (ht t (.head _)).1 (ht t (.head _)).2 h1 hb fun x hx => hp x (by simp [hx])) (trodAll_stays hb (fun t' h' => ht t' (.tail _ h')) h2 fun x hx => hp x (by simp [hx]))

theorem tab32 : (Tryz.prog.globals[powG]?).map (·.type) = some 407 := by kernel_rfl
theorem cells20 : Tryz.prog.cellsOf 407 = 20 := by kernel_rfl
theorem cells64 : Tryz.prog.cellsOf 239 = 1 := by kernel_rfl
theorem lay_of_laid {x y : String × DataW Unit} {r : List (String × DataW Unit)} {W : World} (h : laidMet Tryz.prog (x :: y :: ("internal/strconv.uint64pow10", Lib.tabData .u64 Lib.pow10Tab) :: r) W) : Lay W := by
  obtain ⟨ps, ⟨_, _, _, _, _, _, _, _, _, _, ⟨_, _, _, _, _, _, _, _, _, _, ⟨g', t', cs, fuel, p, q, hg', ht', hvar, hd, _, _⟩, _⟩, _⟩, _⟩ := h
  obtain rfl := Option.some.inj (powG_is.symm.trans hg')
  obtain rfl := Option.some.inj (tab32.symm.trans ht')
  unfold Lay Lib.TabIs
  rw [hvar, ← Lib.cells_of_tab Tryz.underlying407 Tryz.underlying239 cells64 cells20 hd]

theorem lay_of_laid0 {r : List (String × DataW Unit)} {W : World} (h : laidMet Tryz.prog (("internal/strconv.uint64pow10", Lib.tabData .u64 Lib.pow10Tab) :: r) W) : Lay W := by
  obtain ⟨ps, ⟨g', t', cs, fuel, p, q, hg', ht', hvar, hd, _, _⟩, _⟩ := h
  obtain rfl := Option.some.inj (powG_is.symm.trans hg')
  obtain rfl := Option.some.inj (tab32.symm.trans ht')
  unfold Lay Lib.TabIs
  rw [hvar, ← Lib.cells_of_tab Tryz.underlying407 Tryz.underlying239 cells64 cells20 hd]

end Go.Proofs.YtiomlnhfhmpejaaGreatDoor
